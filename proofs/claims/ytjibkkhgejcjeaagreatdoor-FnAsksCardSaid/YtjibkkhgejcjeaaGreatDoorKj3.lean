/- What is told of the functions that are reached, as far as it is asked here. -/
import Derived.Test.YtjibkkhgejcjeaaGreatDoorKj2
import Derived.KernelRfl
set_option linter.unusedSimpArgs false
set_option linter.unusedVariables false
namespace Go.Proofs.YtjibkkhgejcjeaaGreatDoor.Lg
open Go
section
attribute [local irreducible] SRun DS DRun
variable {Γ : St} {σ σ0 : St}
theorem rtsV_len (rs : List Rt) : (rtsV rs).length = rs.length := by simp [rtsV]
section
variable {P : Program} {f : FuncId} {n : Nat} {Q : V → St → Prop} {k : List It} {T : Ts} {g : GI} {l : List GI}
theorem stepW_iaddr_rts {ex : Bool} {xs : List Rt} {kk : IntKind} {m : Int} (h0 : 0 ≤ m) (h1 : m < xs.length) : stepW P Γ f n Q (.iaddr 4 (.c (.isl ex 4 (rtsV xs))) (.c (.int kk m))) g l k T σ = W P Γ f n Q (.ops l :: k) (putT T g.d (.iptr (rtC (xs.getD m.toNat default)))) σ := stepW_iaddr_map h0 h1
theorem stepK_iaddr_rts {K : V → St → Prop} {ex : Bool} {xs : List Rt} {kk : IntKind} {m : Int} (h0 : 0 ≤ m) (h1 : m < xs.length) : stepK (.iaddr 4 (.c (.isl ex 4 (rtsV xs))) (.c (.int kk m))) σ K = K (.iptr (rtC (xs.getD m.toNat default))) σ := stepK_iaddr_map h0 h1
theorem stepW_iaddr_bools {ex : Bool} {xs : List Bool} {kk : IntKind} {m : Int} (h0 : 0 ≤ m) (h1 : m < xs.length) : stepW P Γ f n Q (.iaddr 1 (.c (.isl ex 1 (bools xs))) (.c (.int kk m))) g l k T σ = W P Γ f n Q (.ops l :: k) (putT T g.d (.iptr [.bool (xs.getD m.toNat false)])) σ := stepW_iaddr_map h0 h1
theorem stepK_iaddr_bools {K : V → St → Prop} {ex : Bool} {xs : List Bool} {kk : IntKind} {m : Int} (h0 : 0 ≤ m) (h1 : m < xs.length) : stepK (.iaddr 1 (.c (.isl ex 1 (bools xs))) (.c (.int kk m))) σ K = K (.iptr [.bool (xs.getD m.toNat false)]) σ := stepK_iaddr_map h0 h1
end
attribute [go_sem] stepW_iaddr_rts stepK_iaddr_rts rtsV_len stepW_iaddr_bools stepK_iaddr_bools bools_len
theorem rt_one (r : Rt) : ∀ c ∈ rtC r, c.one = true := by simp [rtC, V.one]
theorem rts_ok (rs : List Rt) : ∀ y ∈ rtsV rs, y.cells.length = 4 ∧ ∀ c ∈ y.cells, c.one = true := by
  intro y hy; simp only [rtsV, List.mem_map] at hy; obtain ⟨x, _, rfl⟩ := hy; simp [V.cells, rtC, V.one]
theorem rt1_ok (r : Rt) : ∀ y ∈ [V.agg (rtC r)], y.cells.length = 4 ∧ ∀ c ∈ y.cells, c.one = true := rts_ok [r]
theorem rts_app (rs : List Rt) (r : Rt) : rtsV rs ++ [.agg (rtC r)] = rtsV (rs ++ [r]) := by simp [rtsV]
theorem le_two {b c : Nat} (hb : σ b = none) (hc : σ c = none) (y z : List V) : ∀ d x, σ d = some x → upd (upd σ b y) c z d = some x := by
  intro d x h
  have h1 : d ≠ c := fun e => by subst e; rw [h] at hc; cases hc
  have h2 : d ≠ b := fun e => by subst e; rw [h] at hb; cases hb
  rw [upd_ne _ _ h1, upd_ne _ _ h2]; exact h
/-- What is owned beside what is not needed any more. -/
theorem ownL_less {σ1 s : St} {es : Nat} {xs : List V} {q : V} (h : OwnL σ1 es xs q s) (hle : ∀ b c, σ b = some c → σ1 b = some c) : ∃ s2, (∀ b c, s2 b = some c → s b = some c) ∧ OwnL σ es xs q s2 := by
  rcases h.1 with ⟨hc, hl, rfl, es', rfl⟩ | ⟨b2, cap, hb, rfl, rfl, h4⟩
  · exact ⟨σ, hle, .inl ⟨hc, hl, rfl, es', rfl⟩, h.2⟩
  · have hb2 : σ b2 = none := by
      cases e : σ b2 with
      | none => rfl
      | some c => rw [hle _ _ e] at hb; cases hb
    refine ⟨upd σ b2 (flat xs), fun b c hbc => ?_, .inr ⟨b2, cap, hb2, rfl, rfl, h4⟩, h.2⟩
    by_cases e : b = b2
    · subst e; rw [upd_same] at hbc ⊢; exact hbc
    · rw [upd_ne _ _ e] at hbc ⊢; exact hle _ _ hbc
theorem l07None_ok : Ret Tryz.prog Γ 140 [] σ (.agg (rtC noRt)) σ := by
  refine ret_of c140_ok rfl ?_
  simp (disch := omega) only [c140, go_sem]
  refine SRun.allocR ?_
  intro b hb
  simp (disch := omega) only [go_sem]
  exact W_retC c140_ok (resV_cellA rfl (upd_same _ _ _) rfl) (Conv.drop _ (le_upd hb)) ⟨rfl, rfl⟩
theorem l07Has_ok {ex : Bool} {xs : List Int} {x : Int} (hl : xs.length ≤ 1000000000000) : Ret Tryz.prog Γ 143 [.isl ex 1 (ints xs), .int .i64 x] σ (.int .i64 (hasI xs x)) σ := by
  refine ret_of c143_ok rfl ?_
  simp (disch := omega) only [c143, go_sem]
  refine W_loopC (α := Nat) (fun i => i ≤ xs.length ∧ ∀ j, j < i → decide (xs.getD j default = x) = false) (fun i => [(0, .isl ex 1 (ints xs)), (1, .int .i64 x), (5, .int .i64 (i : Nat))]) (fun _ => σ) (fun i => xs.length - i) 0 ⟨by omega, fun j hj => by omega⟩ (by simp (disch := omega) only [subT, Int.natCast_add, Int.cast_ofNat_Int, go_sem] <;> (repeat' apply And.intro) <;> first | rfl | (congr 1; omega) | assumption) rfl ?_
  rintro i ⟨hi, hno⟩ ih
  simp (disch := omega) only [go_sem]
  first | refine iteW_dec (fun hq => ?_) (fun hq => ?_) | refine iteW_of (fun hq => ?_) (fun hq => ?_)
  · simp (disch := omega) only [go_sem]
    first | refine iteW_dec (fun h2 => ?_) (fun h2 => ?_) | refine iteW_of (fun h2 => ?_) (fun h2 => ?_)
    · have := first_some (p := fun y => decide (y = x)) (xs := xs) (i := i) (by omega) hno (decide_eq_true h2)
      simp (disch := omega) only [go_sem]
      exact W_retR c143_ok rfl ⟨by rw [hasI, this]; rfl, rfl⟩
    · simp (disch := omega) only [go_sem]
      refine ih (i + 1) _ _ ⟨by omega, fun j hj => ?_⟩ (by omega) (by simp (disch := omega) only [subT, Int.natCast_add, Int.cast_ofNat_Int, go_sem] <;> (repeat' apply And.intro) <;> first | rfl | (congr 1; omega) | assumption) rfl
      by_cases e : j = i
      · subst e; exact decide_eq_false h2
      · exact hno j (by omega)
  · have hil : i = xs.length := by omega
    rw [hil] at hno
    have := first_none (p := fun y => decide (y = x)) (xs := xs) hno
    simp (disch := omega) only [go_sem]
    exact W_retR c143_ok rfl ⟨by rw [hasI, this]; rfl, rfl⟩
theorem l07Better_ok {a b : Rt} : Ret Tryz.prog Γ 162 [.agg (rtC a), .agg (rtC b)] σ (.bool (betterP a b)) σ := by
  refine ret_of c162_ok rfl ?_
  simp (disch := omega) only [c162, rtC, go_sem]
  refine SRun.boxR (by simp [ev, look, V.cells, V.one]) ?_
  intro b2 hb2
  simp (disch := omega) only [go_sem]
  refine SRun.boxR (by simp [ev, look, V.cells, V.one]) ?_
  intro b3 hb3
  have n32 := (upd_none.1 hb3).1
  have n3 := (upd_none.1 hb3).2
  have hle := le_two hb2 n3
  unfold betterP
  simp (disch := omega) only [n32.symm, go_sem]
  first | refine iteW_dec (fun h1 => ?_) (fun h1 => ?_) | refine iteW_of (fun h1 => ?_) (fun h1 => ?_)
  · rw [if_pos h1]
    simp (disch := omega) only [n32.symm, go_sem]
    exact W_retC c162_ok rfl (Conv.drop _ (hle _ _)) ⟨rfl, rfl⟩
  · rw [if_neg h1]
    simp (disch := omega) only [n32.symm, go_sem]
    first | refine iteW_dec (fun h2 => ?_) (fun h2 => ?_) | refine iteW_of (fun h2 => ?_) (fun h2 => ?_)
    · rw [if_pos h2]
      simp (disch := omega) only [n32.symm, go_sem]
      exact W_retC c162_ok rfl (Conv.drop _ (hle _ _)) ⟨rfl, rfl⟩
    · rw [if_neg h2]
      simp (disch := omega) only [n32.symm, go_sem]
      exact W_retC c162_ok rfl (Conv.drop _ (hle _ _)) ⟨rfl, rfl⟩
end
section
attribute [local irreducible] SRun DS DRun
variable {Γ : St} {σ σ0 : St}
theorem filter_range_snoc {p : Nat → Bool} (i : Nat) : (List.range (i + 1)).filter p = (List.range i).filter p ++ if p i then [i] else [] := by
  rw [List.range_succ, List.filter_append]
  cases h : p i <;> simp [h]
theorem hasI_in (xs : List Int) (x : Int) : -1 ≤ hasI xs x ∧ hasI xs x < xs.length := first_in _ _
theorem linkP_in (ls : List Link) (x y : Int) : -1 ≤ linkP ls x y ∧ linkP ls x y < ls.length := first_in _ _
theorem l06Neighbours_own {n : Net} {ex : Bool} {down : List Bool} {r : Int} (hn : n.routers.length ≤ 100000000) (hl : n.links.length ≤ 1000000000000) (hd : down.length = n.links.length) :
    ACalls Tryz.prog Γ 159 [netV n, .int .i64 r, .isl ex 1 (bools down)] σ fun q s => OwnL σ 1 (ints (nearP n r down)) q s := by
  have e0 : (netC n)[0]? = some (.isl false 1 (strsV n.routers)) := rfl
  have e1 : (netC n)[1]? = some (.isl false 3 (linksV n.links)) := rfl
  refine acalls_W c159_ok rfl ?_
  simp (disch := omega) only [c159, netV, go_sem]
  refine SRun.boxR (net_one n) ?_
  intro b3 hb3
  have g3 := upd_same σ b3 (netC n)
  simp (disch := omega) only [go_sem]
  refine W_loopC (α := Nat × V × St) (fun p => p.1 ≤ n.routers.length ∧ OwnL (upd σ b3 (netC n)) 1 (ints (((List.range p.1).filter (nearB n r down)).map fun (k : Nat) => (k : Int))) p.2.1 p.2.2) (fun p => [(1, .int .i64 r), (2, .isl ex 1 (bools down)), (3, .ptr b3 0), (7, p.2.1), (8, .int .i64 (p.1 : Nat))]) (fun p => p.2.2) (fun p => n.routers.length - p.1) (0, .isl true 1 [], _) ⟨by simp, OwnL.nil _ _⟩ (by simp (disch := omega) only [subT, Int.natCast_add, Int.cast_ofNat_Int, go_sem] <;> (repeat' apply And.intro) <;> first | rfl | (congr 1; omega) | assumption) rfl ?_
  rintro ⟨i, q, s⟩ ⟨hi, ho⟩ ih
  dsimp only at hi ho
  have g3' := ho.get g3
  have hq1 := ho.one
  simp (disch := omega) only [g3', e0, go_sem]
  first | refine iteW_dec (fun h1 => ?_) (fun h1 => ?_) | refine iteW_of (fun h1 => ?_) (fun h1 => ?_)
  · have hf := filter_range_snoc (p := nearB n r down) i
    have hlen : ((List.range i).filter (nearB n r down)).length ≤ i := by have := List.length_filter_le (nearB n r down) (List.range i); simpa using this
    simp (disch := omega) only [g3', e1, go_sem]
    refine SRun.callR (l06Link_ok (ex := false) (ls := n.links) (x := r) (y := i) hl) ⟨[], rfl, rfl⟩ rfl ?_
    have hlk := linkP_in n.links r i
    by_cases h2 : linkP n.links r i ≥ 0
    · have hd2 : decide (linkP n.links r i ≥ 0) = true := decide_eq_true h2
      have hnb : nearB n r down i = !down.getD (linkP n.links r i).toNat false := by unfold nearB; rw [decide_eq_true h2]; rfl
      simp (disch := omega) only [hd2, go_sem]
      generalize down.getD (linkP n.links r i).toNat false = dn at *
      cases dn with
      | false =>
        simp (disch := omega) only [go_sem]
        refine SRun.appL ho rfl (ints_ok [(i : Int)]) (by simp [ints]; omega) ?_
        intro q' s' ho2
        rw [ints_app] at ho2
        simp (disch := omega) only [go_sem]
        rw [hnb] at hf
        refine ih (i + 1, q', s') _ _ ⟨by simp only; omega, by rw [hf]; simpa using ho2⟩ (by simp only; omega) (by simp (disch := omega) only [subT, Int.natCast_add, Int.cast_ofNat_Int, go_sem] <;> (repeat' apply And.intro) <;> first | rfl | (congr 1; omega) | assumption) rfl
      | true =>
        simp (disch := omega) only [go_sem]
        rw [hnb] at hf
        refine ih (i + 1, q, s) _ _ ⟨by simp only; omega, by rw [hf]; simpa using ho⟩ (by simp only; omega) (by simp (disch := omega) only [subT, Int.natCast_add, Int.cast_ofNat_Int, go_sem] <;> (repeat' apply And.intro) <;> first | rfl | (congr 1; omega) | assumption) rfl
    · have hd2 : decide (linkP n.links r i ≥ 0) = false := decide_eq_false h2
      have hnb : nearB n r down i = false := by unfold nearB; rw [decide_eq_false h2]; rfl
      simp (disch := omega) only [hd2, go_sem]
      rw [hnb] at hf
      refine ih (i + 1, q, s) _ _ ⟨by simp only; omega, by rw [hf]; simpa using ho⟩ (by simp only; omega) (by simp (disch := omega) only [subT, Int.natCast_add, Int.cast_ofNat_Int, go_sem] <;> (repeat' apply And.intro) <;> first | rfl | (congr 1; omega) | assumption) rfl
  · have hir : i = n.routers.length := by omega
    subst hir
    obtain ⟨s2, hle, ho2⟩ := ho.drop hb3
    simp (disch := omega) only [go_sem]
    exact W_retC c159_ok rfl (Conv.drop _ hle) ho2
theorem l06Neighbours_ok {n : Net} {ex : Bool} {down : List Bool} {r : Int} (hn : n.routers.length ≤ 100000000) (hl : n.links.length ≤ 1000000000000) (hd : down.length = n.links.length) :
    Ret Tryz.prog Γ 159 [netV n, .int .i64 r, .isl ex 1 (bools down)] σ (.isl false 1 (ints (nearP n r down))) σ :=
  ACalls.conv (l06Neighbours_own hn hl hd) fun q s ho => ⟨_, σ, ho.conv, rfl, rfl⟩
/-- The vias of routes name routers. -/
def ViasIn (rs : List Rt) : Prop := ∀ v : Int, (rtAt rs v).via < rs.length
theorem l07Through_ok {ex : Bool} {rs : List Rt} {from_ router : Int} (hl : rs.length ≤ 1000000000000) (hv : ViasIn rs) (hf : from_ < rs.length) :
    Ret Tryz.prog Γ 160 [.isl ex 4 (rtsV rs), .int .i64 from_, .int .i64 router] σ (.bool (throughP rs from_ router)) σ := by
  refine ret_of c160_ok rfl ?_
  simp (disch := omega) only [c160, go_sem]
  refine W_loopC (α := Nat × Int) (fun p => p.1 ≤ rs.length + 1 ∧ p.2 < rs.length ∧ throughP rs from_ router = thr rs router (rs.length + 1 - p.1) p.2) (fun p => [(0, .isl ex 4 (rtsV rs)), (2, .int .i64 router), (7, .int .i64 p.2), (8, .int .i64 (p.1 : Nat))]) (fun _ => σ) (fun p => rs.length + 1 - p.1) (0, from_) ⟨by simp, hf, rfl⟩ (by simp (disch := omega) only [subT, Int.natCast_add, Int.cast_ofNat_Int, go_sem] <;> (repeat' apply And.intro) <;> first | rfl | (congr 1; omega) | assumption) rfl ?_
  rintro ⟨i, k⟩ ⟨hi, hk, he⟩ ih
  dsimp only at hi hk he
  simp (disch := omega) only [go_sem]
  first | refine iteW_dec (fun h1 => ?_) (fun h1 => ?_) | refine iteW_of (fun h1 => ?_) (fun h1 => ?_)
  · obtain ⟨m, hm⟩ : ∃ m, rs.length + 1 - i = m + 1 := ⟨rs.length - i, by omega⟩
    rw [hm] at he
    simp only [thr] at he
    simp (disch := omega) only [go_sem]
    first | refine iteW_dec (fun h2 => ?_) (fun h2 => ?_) | refine iteW_of (fun h2 => ?_) (fun h2 => ?_)
    · rw [if_pos h2] at he
      rw [he]
      simp (disch := omega) only [go_sem]
      exact W_retR c160_ok rfl ⟨rfl, rfl⟩
    · rw [if_neg h2] at he
      simp (disch := omega) only [go_sem]
      by_cases h3 : k < 0
      · have hd3 : decide (k < 0) = true := decide_eq_true h3
        rw [if_pos h3] at he
        rw [he]
        simp (disch := omega) only [hd3, go_sem]
        exact W_retR c160_ok rfl ⟨rfl, rfl⟩
      · have hd3 : decide (k < 0) = false := decide_eq_false h3
        rw [if_neg h3] at he
        have hvk := hv k
        have hrt : rtAt rs k = rs.getD k.toNat default := rfl
        simp (disch := omega) only [hd3, rtC, go_sem]
        rw [← hrt]
        by_cases h4 : (rtAt rs k).via < 0
        · have hd4 : decide ((rtAt rs k).via < 0) = true := decide_eq_true h4
          rw [if_pos h4] at he
          rw [he]
          simp (disch := omega) only [hd4, go_sem]
          exact W_retR c160_ok rfl ⟨rfl, rfl⟩
        · have hd4 : decide ((rtAt rs k).via < 0) = false := decide_eq_false h4
          rw [if_neg h4] at he
          simp (disch := omega) only [hd4, rtC, go_sem]
          rw [← hrt]
          exact ih (i + 1, (rtAt rs k).via) _ _ ⟨by simp only; omega, hvk, by rw [he]; congr 1; simp only; omega⟩ (by simp only; omega) (by simp (disch := omega) only [subT, Int.natCast_add, Int.cast_ofNat_Int, go_sem] <;> (repeat' apply And.intro) <;> first | rfl | (congr 1; omega) | assumption) rfl
  · have hir : rs.length + 1 - i = 0 := by omega
    rw [hir] at he
    rw [he]
    simp (disch := omega) only [go_sem]
    exact W_retR c160_ok rfl ⟨rfl, rfl⟩
/-- What is imported, as a route: none if it is denied. -/
def rtO : Option Rt → Rt | some r => r | none => noRt
set_option maxHeartbeats 1000000 in
theorem l07Import_ok {n : Net} {router from_ : Int} {r : Rt} (hl : n.links.length ≤ 1000000000000) (hi : n.imports.length ≤ 1000000000000) (hlk : 0 ≤ linkP n.links router from_) (hr : 0 ≤ r.len ∧ r.len ≤ 1000000000) (hc : ∀ l ∈ n.links, 1 ≤ l.cost ∧ l.cost ≤ 100) :
    Ret Tryz.prog Γ 161 [netV n, .int .i64 router, .int .i64 from_, .agg (rtC r)] σ (.agg (rtC (rtO (importO n router from_ r)))) σ := by
  have e1 : (netC n)[1]? = some (.isl false 3 (linksV n.links)) := rfl
  have e4 : (netC n)[4]? = some (.isl false 5 (impsV n.imports)) := rfl
  have hlk2 := (linkP_in n.links router from_).2
  have hcost := hc _ (getD_mem default (by omega : (linkP n.links router from_).toNat < n.links.length))
  refine ret_of c161_ok rfl ?_
  simp (disch := omega) only [c161, netV, go_sem]
  refine SRun.boxR (net_one n) ?_
  intro b4 hb4
  simp (disch := omega) only [go_sem]
  refine SRun.boxR (rt_one r) ?_
  intro b7 hb7
  have n74 := (upd_none.1 hb7).1
  have n7 := (upd_none.1 hb7).2
  simp (disch := omega) only [go_sem]
  refine SRun.allocR ?_
  intro b8 hb8
  have n8 := upd_none.1 hb8
  have n8' := upd_none.1 n8.2
  have g4 : ∀ z, upd (upd (upd σ b4 (netC n)) b7 (rtC r)) b8 z b4 = some (netC n) := fun z => by rw [upd_ne _ _ n8'.1.symm, upd_ne _ _ n74.symm, upd_same]
  have g7 : ∀ z, upd (upd (upd σ b4 (netC n)) b7 (rtC r)) b8 z b7 = some (rtC r) := fun z => by rw [upd_ne _ _ n8.1.symm, upd_same]
  have g8 := fun z => upd_same (upd (upd σ b4 (netC n)) b7 (rtC r)) b8 z
  have hσ : ∀ z d x, σ d = some x → upd (upd (upd σ b4 (netC n)) b7 (rtC r)) b8 z d = some x := fun z d x h => le_upd hb8 _ _ (le_two hb4 n7 _ _ _ _ h)
  have hσ8 := hσ [.int .i64 0, .int .i64 0, .int .i64 0, .bool false]
  have g48 := g4 [.int .i64 0, .int .i64 0, .int .i64 0, .bool false]
  have g78 := g7 [.int .i64 0, .int .i64 0, .int .i64 0, .bool false]
  have g88 := g8 [.int .i64 0, .int .i64 0, .int .i64 0, .bool false]
  generalize upd (upd (upd σ b4 (netC n)) b7 (rtC r)) b8 [.int .i64 0, .int .i64 0, .int .i64 0, .bool false] = s1 at *
  simp (disch := omega) only [go_sem]
  rw [W_draw]
  refine DRun.start (DRun.mixNR (fun T s' => ∃ b9, s1 b9 = none ∧ s' = upd emp b9 [.int .i64 0, .int .i64 0, .int .i64 0, .bool false] ∧ look T 1 = .int .i64 router ∧ look T 2 = .int .i64 from_ ∧ look T 4 = .ptr b4 0 ∧ look T 8 = .ptr b8 0 ∧ look T 9 = .ptr b9 0 ∧ look T 28 = .agg (rtC ⟨from_, 100, r.len + (linkAtP n router from_).cost, r.mark⟩)) rfl ?_ ?_)
  · have hlc : ∀ l, linkC l = [.int .i64 l.a, .int .i64 l.b, .int .i64 l.cost] := fun _ => rfl
    simp (disch := omega) only [g78, g48, e1, rtC, go_sem]
    refine DS.wr2 (WrF.call (l06Link_ok (ex := false) (ls := n.links) (x := router) (y := from_) hl) ⟨[], rfl, rfl⟩) rfl ?_ ?_
    · rintro x s ⟨rfl, hs⟩ hd
      obtain rfl := hs.symm
      simp (disch := omega) only [hlc, go_sem]
      refine DS.wrQ WrF.alloc rfl ?_
      rintro _ s9 ⟨b9, hb9, rfl, rfl⟩ hd9
      refine ⟨b9, disj_new hd9, ?_⟩
      (repeat' apply And.intro) <;> rfl
    · refine DS.wrQ WrF.alloc rfl ?_
      rintro _ s9 ⟨b9, hb9, rfl, rfl⟩ hd9
      simp (disch := omega) only [go_sem]
      refine DS.wrQ (WrF.call (l06Link_ok (ex := false) (ls := n.links) (x := router) (y := from_) hl) ⟨[], rfl, rfl⟩) rfl ?_
      rintro x s ⟨rfl, hs⟩ hd
      obtain rfl := hs.symm
      simp (disch := omega) only [hlc, go_sem]
      refine ⟨b9, disj_new hd9, ?_⟩
      (repeat' apply And.intro) <;> rfl
  rintro T s' ⟨b9, hb9, rfl, k1, k2, k4, k8, k9, k28⟩
  rw [cup_new]
  have n94 : b9 ≠ b4 := fun e => by subst e; rw [g48] at hb9; cases hb9
  have n98 : b9 ≠ b8 := fun e => by subst e; rw [g88] at hb9; cases hb9
  simp (disch := omega) only [k9, k28, go_sem]
  have himp : importO n router from_ r = impGo router from_ n.imports ⟨from_, 100, r.len + (linkAtP n router from_).cost, r.mark⟩ := rfl
  generalize (⟨from_, 100, r.len + (linkAtP n router from_).cost, r.mark⟩ : Rt) = r0 at *
  have hs1 : ∀ d z, s1 d = some z → upd s1 b9 (rtC r0) d = some z := le_upd hb9
  refine W_loopC (α := Nat × Rt × St) (fun p => p.1 ≤ n.imports.length ∧ p.2.2 b9 = some (rtC p.2.1) ∧ (∀ d z, s1 d = some z → p.2.2 d = some z) ∧ importO n router from_ r = impGo router from_ (n.imports.drop p.1) p.2.1) (fun p => [(1, .int .i64 router), (2, .int .i64 from_), (4, .ptr b4 0), (8, .ptr b8 0), (9, .ptr b9 0), (10, .int .i64 (p.1 : Nat))]) (fun p => p.2.2) (fun p => n.imports.length - p.1) (0, r0, _) ⟨by simp, upd_same _ _ _, hs1, by rw [himp]; rfl⟩ (by simp (disch := omega) only [subT, Int.natCast_add, Int.cast_ofNat_Int, k1, k2, k4, k8, k9, go_sem] <;> (repeat' apply And.intro) <;> first | rfl | (congr 1; omega) | assumption) rfl ?_
  clear himp
  rintro ⟨i, cur, s⟩ ⟨hi2, hc9, hle, he⟩ ih
  dsimp only at hi2 hc9 hle he
  have g4' := hle _ _ g48
  have g8' := hle _ _ g88
  have hcr : rtC cur = [.int .i64 cur.via, .int .i64 cur.pref, .int .i64 cur.len, .bool cur.mark] := rfl
  have hend : resV [.cell 8 true 4] = resV [.cell 8 true 4] := rfl
  simp (disch := omega) only [g4', e4, go_sem]
  first | refine iteW_dec (fun h1 => ?_) (fun h1 => ?_) | refine iteW_of (fun h1 => ?_) (fun h1 => ?_)
  · have hdr := drop_cons (xs := n.imports) default (by omega : i < n.imports.length)
    rw [hdr, impGo] at he
    simp (disch := omega) only [g4', e4, go_sem]
    generalize n.imports.getD i default = x at *
    refine SRun.allocR ?_
    intro b11 hb11
    have n11 : b9 ≠ b11 := fun e => by subst e; rw [hc9] at hb11; cases hb11
    have n11b : b11 ≠ b9 := n11.symm
    have n8b : b8 ≠ b9 := n98.symm
    have n118 : b8 ≠ b11 := fun e => by subst e; rw [g8'] at hb11; cases hb11
    have hle3 : ∀ z, ∀ d y, s1 d = some y → upd s b11 z d = some y := fun z d y h => le_upd hb11 _ _ (hle _ _ h)
    have hic : impC x = [.int .i64 x.at_, .int .i64 x.from_, .int .i64 x.when_, .int .i64 x.do_, .int .i64 x.n] := rfl
    clear hcr
    obtain ⟨cv, cp, cl, mk⟩ := cur
    have hcr : rtC ⟨cv, cp, cl, mk⟩ = [.int .i64 cv, .int .i64 cp, .int .i64 cl, .bool mk] := rfl
    dsimp only at he
    have hdef : impSkip router from_ x ⟨cv, cp, cl, mk⟩ = (!decide (x.at_ = router) || !decide (x.from_ = from_) || (decide (x.when_ = 1) && !mk) || (decide (x.when_ = 2) && mk)) := rfl
    have m1 : (decide ¬ x.at_ = router) = !decide (x.at_ = router) := by simp
    have m2 : (decide ¬ x.from_ = from_) = !decide (x.from_ = from_) := by simp
    generalize decide (x.at_ = router) = q1 at *
    generalize decide (x.from_ = from_) = q2 at *
    generalize m3 : decide (x.when_ = 1) = q3 at *
    generalize m4 : decide (x.when_ = 2) = q4 at *
    by_cases hsk : impSkip router from_ x ⟨cv, cp, cl, mk⟩ = true
    · rw [if_pos hsk] at he
      rw [hdef] at hsk
      cases q1
      case' true =>
        cases q2
        case' true =>
          cases q3 <;> cases q4 <;> cases mk
      all_goals
        first
        | (exfalso; revert hsk; decide)
        | skip
      all_goals
        simp (disch := omega) only [hc9, n11, n11b, hic, hcr, m1, m2, m3, m4, go_sem]
        exact ih (i + 1, ⟨cv, cp, cl, _⟩, upd s b11 [.int .i64 x.at_, .int .i64 x.from_, .int .i64 x.when_, .int .i64 x.do_, .int .i64 x.n]) _ _ ⟨by simp only; omega, (upd_ne _ _ n11).trans hc9, hle3 _, he⟩ (by simp only; omega) (by simp (disch := omega) only [subT, Int.natCast_add, Int.cast_ofNat_Int, go_sem] <;> (repeat' apply And.intro) <;> first | rfl | (congr 1; omega) | assumption) rfl
    · rw [if_neg hsk] at he
      rw [hdef] at hsk
      cases q1
      case' true =>
        cases q2
        case' true =>
          cases q3 <;> cases q4 <;> cases mk
      all_goals
        first
        | (exfalso; revert hsk; simp; done)
        | skip
      all_goals
        simp (disch := omega) only [hc9, n11, n11b, hic, hcr, m1, m2, m3, m4, go_sem]
        have g8'' : ∀ z, upd s b11 z b8 = some [.int .i64 0, .int .i64 0, .int .i64 0, .bool false] := fun z => by rw [upd_ne _ _ n118]; exact g8'
        by_cases d1 : x.do_ = 1
        · have dd1 : decide (x.do_ = 1) = true := decide_eq_true d1
          rw [if_pos d1] at he
          simp (disch := omega) only [dd1, go_sem]
          refine SRun.callR l07None_ok ⟨[], rfl, rfl⟩ rfl ?_
          have hnr : rtC noRt = [.int .i64 (-3), .int .i64 0, .int .i64 0, .bool false] := rfl
          simp (disch := omega) only [g8'', hnr, go_sem]
          refine W_retC c161_ok (r := .agg (rtC noRt)) (resV_cellA rfl (upd_same _ _ _) rfl) (Conv.drop _ fun d z h => ?_) ⟨by rw [he]; rfl, rfl⟩
          have hd8 : d ≠ b8 := fun e => by subst e; rw [n8'.2] at h; cases h
          rw [upd_ne _ _ hd8]; exact hle3 _ _ _ (hσ8 _ _ h)
        · have dd1 : decide (x.do_ = 1) = false := decide_eq_false d1
          rw [if_neg d1] at he
          by_cases d2 : x.do_ = 2
          · have dd2 : decide (x.do_ = 2) = true := decide_eq_true d2
            rw [if_pos d2] at he
            simp (disch := omega) only [dd1, dd2, hc9, n11, n11b, hcr, go_sem]
            refine ih (i + 1, ⟨cv, x.n, cl, _⟩, upd (upd s b11 [.int .i64 x.at_, .int .i64 x.from_, .int .i64 x.when_, .int .i64 x.do_, .int .i64 x.n]) b9 [.int .i64 cv, .int .i64 x.n, .int .i64 cl, .bool _]) _ _ ⟨by simp only; omega, upd_same _ _ _, fun d z h => ?_, he⟩ (by simp only; omega) (by simp (disch := omega) only [subT, Int.natCast_add, Int.cast_ofNat_Int, go_sem] <;> (repeat' apply And.intro) <;> first | rfl | (congr 1; omega) | assumption) rfl
            have hd9 : d ≠ b9 := fun e => by subst e; rw [hb9] at h; cases h
            try simp only
            rw [upd_ne _ _ hd9]; exact hle3 _ _ _ h
          · have dd2 : decide (x.do_ = 2) = false := decide_eq_false d2
            rw [if_neg d2] at he
            simp (disch := omega) only [dd1, dd2, hc9, n11, n11b, hcr, go_sem]
            refine ih (i + 1, ⟨cv, cp, cl, decide (x.do_ = 3)⟩, upd (upd s b11 [.int .i64 x.at_, .int .i64 x.from_, .int .i64 x.when_, .int .i64 x.do_, .int .i64 x.n]) b9 [.int .i64 cv, .int .i64 cp, .int .i64 cl, .bool (decide (x.do_ = 3))]) _ _ ⟨by simp only; omega, upd_same _ _ _, fun d z h => ?_, he⟩ (by simp only; omega) (by simp (disch := omega) only [subT, Int.natCast_add, Int.cast_ofNat_Int, go_sem] <;> (repeat' apply And.intro) <;> first | rfl | (congr 1; omega) | assumption) rfl
            have hd9 : d ≠ b9 := fun e => by subst e; rw [hb9] at h; cases h
            try simp only
            rw [upd_ne _ _ hd9]; exact hle3 _ _ _ h
  · have hil : i = n.imports.length := by omega
    rw [hil, List.drop_length, impGo] at he
    have ho : rtO (importO n router from_ r) = cur := by rw [he]; rfl
    have hc9' : s b9 = some [.int .i64 cur.via, .int .i64 cur.pref, .int .i64 cur.len, .bool cur.mark] := hc9
    simp (disch := omega) only [hc9, hcr, g8', go_sem]
    refine W_retC c161_ok (r := .agg (rtC cur)) (resV_cellA rfl (upd_same _ _ _) rfl) (Conv.drop _ fun d z h => ?_) ⟨by rw [ho], rfl⟩
    have hd8 : d ≠ b8 := fun e => by subst e; rw [n8'.2] at h; cases h
    rw [upd_ne _ _ hd8]; exact hle _ _ (hσ8 _ _ h)
end
section
attribute [local irreducible] SRun DS DRun
variable {Γ : St} {σ σ0 : St}
/-- Routes that are not too long, and name routers. -/
structure RtsW (rs : List Rt) : Prop where
  vias : ViasIn rs
  lens : ∀ v : Int, 0 ≤ (rtAt rs v).len ∧ (rtAt rs v).len ≤ 1000000000
set_option maxHeartbeats 1000000 in
theorem l07Candidates_own {n : Net} {ex ex2 ex3 : Bool} {env : List Int} {down : List Bool} {rs : List Rt} {router : Int} (hn : NetR n) (ho : n.origins.length ≤ 1000000000000) (he : env.length = n.externals.length) (hd : down.length = n.links.length) (hl : rs.length = n.routers.length) (hr : RtsW rs) :
    ACalls Tryz.prog Γ 141 [netV n, .int .i64 router, .isl ex 1 (ints env), .isl ex2 1 (bools down), .isl ex3 4 (rtsV rs)] σ fun q s => OwnL σ 4 (rtsV (candP n router env down rs)) q s := by
  have r4 := hn.r4
  have l6 := hn.l6
  have i12 := hn.i12
  have x2 := hn.x2
  have hlen : (netC n).take 6 = netC n := rfl
  have hlen2 : (netC n).length = 6 := rfl
  have e0 : (netC n)[0]? = some (.isl false 1 (strsV n.routers)) := rfl
  have e1 : (netC n)[1]? = some (.isl false 3 (linksV n.links)) := rfl
  have e2 : (netC n)[2]? = some (.isl false 1 (ints n.origins)) := rfl
  have e3 : (netC n)[3]? = some (.isl false 1 (ints n.externals)) := rfl
  refine acalls_W c141_ok rfl ?_
  simp (disch := omega) only [c141, netV, go_sem]
  refine SRun.boxR (net_one n) ?_
  intro b5 hb5
  have g5 := upd_same σ b5 (netC n)
  have hσ : ∀ d x, σ d = some x → upd σ b5 (netC n) d = some x := le_upd hb5
  simp (disch := omega) only [go_sem]
  generalize upd σ b5 (netC n) = s1 at *
  simp (disch := omega) only [g5, e2, go_sem]
  refine SRun.callR (l07Has_ok (ex := false) (xs := n.origins) (x := router) ho) ⟨[], rfl, rfl⟩ rfl ?_
  have hcand : candP n router env down rs = ownL n router ++ outL n router env ++ (nearP n router down).filterMap (viaO n router rs) := rfl
  simp (disch := omega) only [go_sem]
  refine iteW_join (fun T s => ∃ q, OwnL s1 4 (rtsV (ownL n router)) q s ∧ look T 1 = .int .i64 router ∧ look T 2 = .isl ex 1 (ints env) ∧ look T 3 = .isl ex2 1 (bools down) ∧ look T 4 = .isl ex3 4 (rtsV rs) ∧ look T 5 = .ptr b5 0 ∧ look T 11 = q) (fun k' key => ?_) ?_
  · by_cases h1 : hasI n.origins router ≥ 0
    · have hd1 : decide (hasI n.origins router ≥ 0) = true := decide_eq_true h1
      simp (disch := omega) only [hd1, go_sem]
      refine SRun.appL (OwnL.nil _ 4) rfl (rt1_ok ⟨-2, 200, 0, false⟩) (by simp) ?_
      intro q s ho1
      simp (disch := omega) only [go_sem]
      refine key _ _ ⟨q, ?_, rfl, rfl, rfl, rfl, rfl, rfl⟩
      unfold ownL; rw [if_pos (by omega)]; exact ho1
    · have hd1 : decide (hasI n.origins router ≥ 0) = false := decide_eq_false h1
      simp (disch := omega) only [hd1, go_sem]
      refine key _ _ ⟨_, ?_, rfl, rfl, rfl, rfl, rfl, rfl⟩
      unfold ownL; rw [if_neg (by omega)]; exact OwnL.nil _ 4
  rintro T s ⟨q, ho1, k1, k2, k3, k4, k5, k11⟩
  have hx1 : n.externals.length ≤ 1000000000000 := by omega
  simp (disch := omega) only [ho1.get g5, e3, k1, k2, k3, k4, k5, go_sem]
  refine SRun.callR (l07Has_ok (ex := false) (xs := n.externals) (x := router) hx1) ⟨[], rfl, rfl⟩ rfl ?_
  have hx := hasI_in n.externals router
  have hob : outB n router env = (decide (0 ≤ hasI n.externals router) && decide (0 < env.getD (hasI n.externals router).toNat 0)) := rfl
  have hxb : (hasI n.externals router ≥ 0 ∧ outB n router env = decide (env.getD (hasI n.externals router).toNat 0 > 0)) ∨ (hasI n.externals router < 0 ∧ outB n router env = false) := by
    by_cases h : 0 ≤ hasI n.externals router
    · exact .inl ⟨h, by rw [hob, decide_eq_true h]; rfl⟩
    · exact .inr ⟨by omega, by rw [hob, decide_eq_false h]; rfl⟩
  have hol : outL n router env = if outB n router env then [⟨-1, 100, 2, decide (env.getD (hasI n.externals router).toNat 0 = 2)⟩] else [] := rfl
  rcases hxb with ⟨hx0, hb⟩ | ⟨hx0, hb⟩
  case' inl =>
    have hd1 : decide (hasI n.externals router ≥ 0) = true := decide_eq_true hx0
    simp (disch := omega) only [hd1, k1, k2, k3, k4, k5, k11, go_sem]
    refine iteW_join (fun T s => ∃ q, OwnL s1 4 (rtsV (ownL n router ++ outL n router env)) q s ∧ look T 1 = .int .i64 router ∧ look T 3 = .isl ex2 1 (bools down) ∧ look T 4 = .isl ex3 4 (rtsV rs) ∧ look T 5 = .ptr b5 0 ∧ look T 11 = q) (fun k' key => ?_) ?_
    · rw [hol, hb] at key
      first | refine iteW_dec (fun h3 => ?_) (fun h3 => ?_) | refine iteW_of (fun h3 => ?_) (fun h3 => ?_)
      · rw [if_pos (by simpa using h3)] at key
        simp (disch := omega) only [hd1, k1, k2, k3, k4, k5, k11, go_sem]
        refine SRun.appL ho1 rfl (rt1_ok ⟨-1, 100, 2, decide (env.getD (hasI n.externals router).toNat 0 = 2)⟩) (by unfold ownL; split <;> simp [rtsV]) ?_
        intro q2 s2 ho2
        have ha := rts_app (ownL n router) ⟨-1, 100, 2, decide (env.getD (hasI n.externals router).toNat 0 = 2)⟩
        simp only [rtC] at ha
        rw [ha] at ho2
        simp (disch := omega) only [go_sem]
        exact key _ _ ⟨q2, ho2, k1, k3, k4, k5, rfl⟩
      · rw [if_neg (by simpa using h3), List.append_nil] at key
        simp (disch := omega) only [go_sem]
        exact key _ _ ⟨q, ho1, k1, k3, k4, k5, k11⟩
  case' inr =>
    have hd1 : decide (hasI n.externals router ≥ 0) = false := decide_eq_false (by omega)
    have hol2 : outL n router env = [] := by rw [hol, hb]; rfl
    have hcl : OwnL s1 4 (rtsV (ownL n router ++ outL n router env)) q s := by rw [hol2, List.append_nil]; exact ho1
    simp (disch := omega) only [hd1, k1, k2, k3, k4, k5, k11, go_sem]
    clear ho1 hol2
    have ho1 := hcl
  case' inl => 
    clear ho1 k1 k2 k3 k4 k5 k11
    rintro T s ⟨q, ho1, k1, k3, k4, k5, k11⟩
  all_goals
    have g5' := ho1.get g5
    simp (disch := omega) only [g5', hlen, hlen2, k1, k3, k4, k5, go_sem]
    refine SRun.callR (l06Neighbours_ok (ex := ex2) (n := n) (down := down) (r := router) (by omega) (by omega) hd) ⟨[], rfl, rfl⟩ rfl ?_
    have hnm : ∀ v ∈ nearP n router down, _ := fun v hv => near_mem hv
    have hnl : (nearP n router down).length ≤ 4 := by
      simp only [nearP, List.length_map]
      have := List.length_filter_le (nearB n router down) (List.range n.routers.length)
      rw [List.length_range] at this; omega
    have hbl : (ownL n router ++ outL n router env).length ≤ 2 := by
      rw [List.length_append]; unfold ownL outL; split <;> split <;> simp
    generalize ownL n router ++ outL n router env = base at *
    generalize nearP n router down = nr at *
    simp (disch := omega) only [go_sem]
    refine W_loopC (α := Nat × V × St × St) (fun p => p.1 ≤ nr.length ∧ (∀ d x, s1 d = some x → p.2.2.1 d = some x) ∧ OwnL p.2.2.1 4 (rtsV (base ++ (nr.take p.1).filterMap (viaO n router rs))) p.2.1 p.2.2.2) (fun p => [(1, .int .i64 router), (3, .isl ex2 1 (bools down)), (4, .isl ex3 4 (rtsV rs)), (5, .ptr b5 0), (11, p.2.1), (13, .isl false 1 (ints nr)), (14, .int .i64 (p.1 : Nat))]) (fun p => p.2.2.2) (fun p => nr.length - p.1) (0, q, s1, s) ⟨by simp, fun _ _ h => h, by simpa using ho1⟩ (by simp (disch := omega) only [subT, Int.natCast_add, Int.cast_ofNat_Int, k1, k3, k4, k5, k11, go_sem] <;> (repeat' apply And.intro) <;> first | rfl | (congr 1; omega) | assumption) rfl ?_
    clear ho1 k1 k3 k4 k5 k11 g5'
    rintro ⟨i, q, sb, s⟩ ⟨hi, hle, ho1⟩ ih
    dsimp only at hi hle ho1
    have g5' := ho1.get (hle _ _ g5)
    simp (disch := omega) only [go_sem]
    first | refine iteW_dec (fun h4 => ?_) (fun h4 => ?_) | refine iteW_of (fun h4 => ?_) (fun h4 => ?_)
    · have hv := hnm _ (getD_mem 0 (by omega : i < nr.length))
      have hts := take_succ (xs := nr) (i := i) 0 (by omega)
      simp (disch := omega) only [go_sem]
      generalize hgv : nr.getD i 0 = v at *
      obtain ⟨v0, v1, v2, v3⟩ := hv
      have hra : rs.getD v.toNat default = rtAt rs v := rfl
      have hrl := hr.lens v
      have hrc : rtC (rtAt rs v) = [.int .i64 (rtAt rs v).via, .int .i64 (rtAt rs v).pref, .int .i64 (rtAt rs v).len, .bool (rtAt rs v).mark] := rfl
      have hvO : viaO n router rs v = if (rtAt rs v).via = -3 ∨ throughP rs v router then none else importO n router v (rtAt rs v) := rfl
      have hno : viaO n router rs v = none → OwnL sb 4 (rtsV (base ++ (nr.take (i + 1)).filterMap (viaO n router rs))) q s := fun hv => by rw [hts, List.filterMap_append, List.filterMap_cons, hv, List.filterMap_nil, List.append_nil]; exact ho1
      have hyes : ∀ r, viaO n router rs v = some r → rtsV (base ++ (nr.take (i + 1)).filterMap (viaO n router rs)) = rtsV (base ++ (nr.take i).filterMap (viaO n router rs)) ++ [.agg (rtC r)] := fun r hv => by rw [hts, List.filterMap_append, List.filterMap_cons, hv, List.filterMap_nil, ← List.append_assoc, rts_app]
      have hsz : (base ++ (nr.take i).filterMap (viaO n router rs)).length ≤ 6 := by
        have := List.length_filterMap_le (viaO n router rs) (nr.take i)
        rw [List.length_append]; rw [List.length_take] at this; omega
      by_cases c1 : (rtAt rs v).via = -3
      · have d1 : decide ((rtAt rs v).via = -3) = true := decide_eq_true c1
        simp (disch := omega) only [hra, hrc, d1, hgv, go_sem]
        exact ih (i + 1, q, sb, s) _ _ ⟨by simp only; omega, hle, hno (by rw [hvO, if_pos (.inl c1)])⟩ (by simp only; omega) (by simp (disch := omega) only [subT, Int.natCast_add, Int.cast_ofNat_Int, go_sem] <;> (repeat' apply And.intro) <;> first | rfl | (congr 1; omega) | assumption) rfl
      · have d1 : decide ((rtAt rs v).via = -3) = false := decide_eq_false c1
        simp (disch := omega) only [hra, hrc, d1, hgv, go_sem]
        refine SRun.callR (l07Through_ok (ex := ex3) (rs := rs) (from_ := v) (router := router) (by omega) hr.vias (by omega)) ⟨[], rfl, rfl⟩ rfl ?_
        cases c2 : throughP rs v router with
        | true =>
          simp (disch := omega) only [go_sem]
          exact ih (i + 1, q, sb, s) _ _ ⟨by simp only; omega, hle, hno (by rw [hvO, if_pos (.inr c2)])⟩ (by simp only; omega) (by simp (disch := omega) only [subT, Int.natCast_add, Int.cast_ofNat_Int, go_sem] <;> (repeat' apply And.intro) <;> first | rfl | (congr 1; omega) | assumption) rfl
        | false =>
          rw [if_neg (by rw [c2]; simp [c1])] at hvO
          simp (disch := omega) only [go_sem]
          rw [W_draw]
          refine DRun.start (DRun.mixNR (fun T s' => ∃ b15, s b15 = none ∧ s' = upd emp b15 [.int .i64 0, .int .i64 0, .int .i64 0, .bool false] ∧ look T 1 = .int .i64 router ∧ look T 3 = .isl ex2 1 (bools down) ∧ look T 4 = .isl ex3 4 (rtsV rs) ∧ look T 5 = .ptr b5 0 ∧ look T 11 = q ∧ look T 13 = .isl false 1 (ints nr) ∧ look T 14 = .int .i64 (i : Nat) ∧ look T 15 = .ptr b15 0 ∧ look T 89 = .agg (rtC (rtO (importO n router v (rtAt rs v))))) rfl ?_ ?_)
          · simp (disch := omega) only [g5', hlen, hlen2, hra, hrc, hgv, go_sem]
            have hI := fun Γ σ => l07Import_ok (Γ := Γ) (σ := σ) (n := n) (router := router) (from_ := v) (r := rtAt rs v) (by omega) (by omega) v2 hrl hn.cost
            refine DS.wr2 (WrF.call (hI _ _) ⟨[], rfl, rfl⟩) rfl ?_ ?_
            · rintro x s ⟨rfl, hs⟩ hd9
              obtain rfl := hs.symm
              simp (disch := omega) only [go_sem]
              refine DS.wrQ WrF.alloc rfl ?_
              rintro _ s9 ⟨b15, hb15, rfl, rfl⟩ hd9
              refine ⟨b15, disj_new hd9, ?_⟩
              (repeat' apply And.intro) <;> rfl
            · refine DS.wrQ WrF.alloc rfl ?_
              rintro _ s9 ⟨b15, hb15, rfl, rfl⟩ hd9
              simp (disch := omega) only [go_sem]
              refine DS.wrQ (WrF.call (hI _ _) ⟨[], rfl, rfl⟩) rfl ?_
              rintro x s ⟨rfl, hs⟩ hd
              obtain rfl := hs.symm
              simp (disch := omega) only [go_sem]
              refine ⟨b15, disj_new hd9, ?_⟩
              (repeat' apply And.intro) <;> rfl
          rintro T s' ⟨b15, hb15, rfl, k1, k3, k4, k5, k11, k13, k14, k15, k89⟩
          rw [cup_new]
          have hbn : b15 ≠ b5 := fun e => by subst e; rw [g5'] at hb15; cases hb15
          have hsb : sb b15 = none := by
            cases e : sb b15 with
            | none => rfl
            | some c => rw [ho1.get e] at hb15; cases hb15
          cases hio : importO n router v (rtAt rs v) with
          | none =>
            rw [hio] at k89 hvO
            have hno2 := hno hvO
            have hnr : rtC (rtO none) = [.int .i64 (-3), .int .i64 0, .int .i64 0, .bool false] := rfl
            simp (disch := omega) only [k15, k89, hnr, k14, go_sem]
            refine ih (i + 1, q, upd sb b15 _, _) _ _ ⟨by simp only; omega, fun d x h => le_upd hsb _ _ (hle _ _ h), hno2.ext hb15⟩ (by simp only; omega) (by simp (disch := omega) only [subT, Int.natCast_add, Int.cast_ofNat_Int, k1, k3, k4, k5, k11, k13, k14, go_sem] <;> (repeat' apply And.intro) <;> first | rfl | (congr 1; omega) | assumption) rfl
          | some r =>
            rw [hio] at k89 hvO
            have hy := hyes r hvO
            have hrv := importO_via hio
            have hnr : rtC (rtO (some r)) = [.int .i64 r.via, .int .i64 r.pref, .int .i64 r.len, .bool r.mark] := rfl
            have hd3 : (decide ¬ r.via = -3) = true := decide_eq_true (by omega)
            simp (disch := omega) only [k15, k89, hnr, hd3, k11, k14, go_sem]
            refine SRun.appL (ho1.ext hb15) rfl (rt1_ok r) (by rw [rtsV_len]; simp only [List.length_singleton]; omega) ?_
            intro q2 s2 ho2
            have ho3 : OwnL (upd sb b15 [.int .i64 r.via, .int .i64 r.pref, .int .i64 r.len, .bool r.mark]) 4 (rtsV (base ++ (nr.take (i + 1)).filterMap (viaO n router rs))) q2 s2 := by rw [hy]; exact ho2
            simp (disch := omega) only [k14, go_sem]
            refine ih (i + 1, q2, upd sb b15 _, s2) _ _ ⟨by simp only; omega, fun d x h => le_upd hsb _ _ (hle _ _ h), ho3⟩ (by simp only; omega) (by simp (disch := omega) only [subT, Int.natCast_add, Int.cast_ofNat_Int, k1, k3, k4, k5, k11, k13, k14, go_sem] <;> (repeat' apply And.intro) <;> first | rfl | (congr 1; omega) | assumption) rfl
    · have hil : i = nr.length := by omega
      subst hil
      rw [List.take_length] at ho1
      obtain ⟨s2, hle2, ho2⟩ := ownL_less ho1 (fun d x h => hle _ _ (hσ _ _ h))
      simp (disch := omega) only [go_sem]
      refine W_retC c141_ok rfl (Conv.drop _ hle2) ?_
      rw [hcand]; exact ho2
end
section
attribute [local irreducible] SRun DS DRun
variable {Γ : St} {σ σ0 : St}
theorem l07Candidates_ok {n : Net} {ex ex2 ex3 : Bool} {env : List Int} {down : List Bool} {rs : List Rt} {router : Int} (hn : NetR n) (ho : n.origins.length ≤ 1000000000000) (he : env.length = n.externals.length) (hd : down.length = n.links.length) (hl : rs.length = n.routers.length) (hr : RtsW rs) :
    Ret Tryz.prog Γ 141 [netV n, .int .i64 router, .isl ex 1 (ints env), .isl ex2 1 (bools down), .isl ex3 4 (rtsV rs)] σ (.isl false 4 (rtsV (candP n router env down rs))) σ :=
  ACalls.conv (l07Candidates_own hn ho he hd hl hr) fun q s ho => ⟨_, σ, ho.conv, rfl, rfl⟩
theorem rts_plain (rs : List Rt) : ∀ c ∈ flat (rtsV rs), Plain c := by
  intro c hc
  simp only [flat, List.mem_flatMap, rtsV, List.mem_map] at hc
  obtain ⟨x, ⟨r, hr, rfl⟩, hc⟩ := hc
  simp only [V.cells, rtC, List.mem_cons, List.not_mem_nil, or_false] at hc
  rcases hc with rfl | rfl | rfl | rfl
  · exact .int _ _
  · exact .int _ _
  · exact .int _ _
  · exact .bool _
theorem ownL_plain {es : Nat} {xs : List V} {q : V} {s : St} (h : OwnL emp es xs q s) (hp : ∀ c ∈ flat xs, Plain c) : Plain q ∧ ∀ b cs, s b = some cs → ∀ c ∈ cs, Plain c := by
  rcases h.1 with ⟨hc, hl, rfl, es', rfl⟩ | ⟨b2, cap, hb, rfl, rfl, h4⟩
  · exact ⟨.isl0 _ _, fun b cs hb => by cases hb⟩
  · refine ⟨.msl _ _ _ _ _, fun b cs hb => ?_⟩
    by_cases e : b = b2
    · subst e; rw [upd_same] at hb; obtain rfl := Option.some.inj hb; exact hp
    · rw [upd_ne _ _ e] at hb; cases hb
/-- What a router could have, where the routes are owned. -/
theorem l07Candidates_lend {n : Net} {ex ex2 : Bool} {env : List Int} {down : List Bool} {rs : List Rt} {router : Int} {q : V} (hn : NetR n) (ho : n.origins.length ≤ 1000000000000) (he : env.length = n.externals.length) (hd : down.length = n.links.length) (hl : rs.length = n.routers.length) (hr : RtsW rs) (hq : Frz σ emp q (.isl false 4 (rtsV rs))) :
    Ret Tryz.prog Γ 141 [netV n, .int .i64 router, .isl ex 1 (ints env), .isl ex2 1 (bools down), q] σ (.isl false 4 (rtsV (candP n router env down rs))) σ :=
  ACalls.conv (ACalls.lend (l07Candidates_own (σ := emp) (ex := ex) (ex2 := ex2) (ex3 := false) hn ho he hd hl hr) rfl (frzL_get (by exact ⟨.refl _, .refl _, .refl _, .refl _, hq, trivial⟩)) fun r s h => ownL_plain h (rts_plain _)) fun r s h => by
    obtain ⟨s', e, hd, h⟩ := h
    subst e
    exact ⟨_, σ, (ownL_join h hd).conv, rfl, rfl⟩
theorem l07Best_ok {ex : Bool} {l : List Rt} (hl : l.length ≤ 1000000000000) : Ret Tryz.prog Γ 142 [.isl ex 4 (rtsV l)] σ (.agg (rtC (bestP l))) σ := by
  refine ret_of c142_ok rfl ?_
  simp (disch := omega) only [c142, go_sem]
  refine SRun.allocR ?_
  intro b2 hb2
  simp (disch := omega) only [go_sem]
  refine SRun.callR l07None_ok ⟨[], rfl, rfl⟩ rfl ?_
  simp (disch := omega) only [go_sem]
  refine SRun.allocR ?_
  intro b3 hb3
  have n32 := (upd_none.1 hb3).1
  have n3 := (upd_none.1 hb3).2
  have hnr : rtC noRt = [.int .i64 (-3), .int .i64 0, .int .i64 0, .bool false] := rfl
  simp (disch := omega) only [hnr, go_sem]
  have hrc : ∀ r : Rt, rtC r = [.int .i64 r.via, .int .i64 r.pref, .int .i64 r.len, .bool r.mark] := fun _ => rfl
  refine W_loopC (α := Nat × Rt) (fun p => p.1 ≤ l.length ∧ bestP l = (l.drop p.1).foldl bestStep p.2) (fun p => [(0, .isl ex 4 (rtsV l)), (2, .ptr b2 0), (3, .ptr b3 0), (4, .int .i64 (p.1 : Nat))]) (fun p => upd (upd σ b2 [.int .i64 0, .int .i64 0, .int .i64 0, .bool false]) b3 (rtC p.2)) (fun p => l.length - p.1) (0, noRt) ⟨by simp, rfl⟩ (by simp (disch := omega) only [subT, Int.natCast_add, Int.cast_ofNat_Int, go_sem] <;> (repeat' apply And.intro) <;> first | rfl | (congr 1; omega) | assumption) rfl ?_
  rintro ⟨i, o⟩ ⟨hi, hb⟩ ih
  dsimp only at hi hb
  simp (disch := omega) only [go_sem]
  first | refine iteW_dec (fun h1 => ?_) (fun h1 => ?_) | refine iteW_of (fun h1 => ?_) (fun h1 => ?_)
  · rw [drop_cons (xs := l) default (by omega : i < l.length), List.foldl_cons] at hb
    have hst : bestStep o (l.getD i default) = if o.via = -3 ∨ betterP (l.getD i default) o then l.getD i default else o := rfl
    have hgr := hrc (l.getD i default)
    simp (disch := omega) only [go_sem]
    refine W_drawW ?_
    by_cases c1 : o.via = -3
    · have d1 : decide (o.via = -3) = true := decide_eq_true c1
      rw [hst, if_pos (.inl c1)] at hb
      simp (disch := omega) only [hrc o, d1, go_sem]
      refine DRun.skipG rfl ?_
      simp (disch := omega) only [hgr, go_sem]
      exact ih (i + 1, l.getD i default) _ _ ⟨by simp only; omega, hb⟩ (by simp only; omega) (by simp (disch := omega) only [subT, Int.natCast_add, Int.cast_ofNat_Int, go_sem] <;> (repeat' apply And.intro) <;> first | rfl | (congr 1; omega) | assumption) rfl
    · have d1 : decide (o.via = -3) = false := decide_eq_false c1
      simp (disch := omega) only [hrc o, hgr, d1, go_sem]
      refine DRun.callG (l07Better_ok (a := l.getD i default) (b := o)) ⟨[], rfl, rfl⟩ rfl ?_
      rintro r s ⟨rfl, hs⟩
      obtain rfl := hs.symm
      cases c2 : betterP (l.getD i default) o with
      | true =>
        rw [hst, if_pos (.inr c2)] at hb
        simp (disch := omega) only [hgr, go_sem]
        exact ih (i + 1, l.getD i default) _ _ ⟨by simp only; omega, hb⟩ (by simp only; omega) (by simp (disch := omega) only [subT, Int.natCast_add, Int.cast_ofNat_Int, go_sem] <;> (repeat' apply And.intro) <;> first | rfl | (congr 1; omega) | assumption) rfl
      | false =>
        rw [hst, if_neg (by rw [c2]; simp [c1])] at hb
        simp (disch := omega) only [hgr, go_sem]
        exact ih (i + 1, o) _ _ ⟨by simp only; omega, hb⟩ (by simp only; omega) (by simp (disch := omega) only [subT, Int.natCast_add, Int.cast_ofNat_Int, go_sem] <;> (repeat' apply And.intro) <;> first | rfl | (congr 1; omega) | assumption) rfl
  · have hil : i = l.length := by omega
    subst hil
    rw [List.drop_length, List.foldl_nil] at hb
    simp (disch := omega) only [hrc o, n32, go_sem]
    refine W_retC c142_ok (r := .agg (rtC o)) (resV_cellA rfl (upd_same _ _ _) rfl) (Conv.drop _ fun d z h => ?_) ⟨by rw [hb], rfl⟩
    have e2 : d ≠ b2 := fun e => by subst e; rw [hb2] at h; cases h
    have e3 : d ≠ b3 := fun e => by subst e; rw [n3] at h; cases h
    rw [upd_ne _ _ e2, upd_ne _ _ e3, upd_ne _ _ e2]; exact h
theorem rt_dec (a b : Rt) : (decide (a.via = b.via) && (decide (a.pref = b.pref) && (decide (a.len = b.len) && a.mark == b.mark))) = decide (a = b) := by
  obtain ⟨a1, a2, a3, a4⟩ := a
  obtain ⟨b1, b2, b3, b4⟩ := b
  rw [Bool.eq_iff_iff]; simp [Rt.mk.injEq]
theorem l07Stable_ok {n : Net} {ex ex2 ex3 : Bool} {env : List Int} {down : List Bool} {rs : List Rt} (hn : NetR n) (ho : n.origins.length ≤ 1000000000000) (he : env.length = n.externals.length) (hd : down.length = n.links.length) (hl : rs.length = n.routers.length) (hr : RtsW rs) :
    Ret Tryz.prog Γ 121 [netV n, .isl ex 1 (ints env), .isl ex2 1 (bools down), .isl ex3 4 (rtsV rs)] σ (.bool (stableB n env down rs)) σ := by
  have r4 := hn.r4
  have hlen : (netC n).take 6 = netC n := rfl
  have hlen2 : (netC n).length = 6 := rfl
  refine ret_of c121_ok rfl ?_
  simp (disch := omega) only [c121, netV, go_sem]
  refine SRun.boxR (net_one n) ?_
  intro b4 hb4
  have g4 := upd_same σ b4 (netC n)
  have hσ : ∀ d x, σ d = some x → upd σ b4 (netC n) d = some x := le_upd hb4
  simp (disch := omega) only [go_sem]
  generalize upd σ b4 (netC n) = s1 at *
  refine W_loopC (α := Nat) (fun i => i ≤ rs.length ∧ ∀ j, j < i → bestP (candP n j env down rs) = rs.getD j default) (fun i => [(1, .isl ex 1 (ints env)), (2, .isl ex2 1 (bools down)), (3, .isl ex3 4 (rtsV rs)), (4, .ptr b4 0), (9, .int .i64 (i : Nat))]) (fun _ => s1) (fun i => rs.length - i) 0 ⟨by omega, fun j hj => by omega⟩ (by simp (disch := omega) only [subT, Int.natCast_add, Int.cast_ofNat_Int, go_sem] <;> (repeat' apply And.intro) <;> first | rfl | (congr 1; omega) | assumption) rfl ?_
  rintro i ⟨hi, hall⟩ ih
  simp (disch := omega) only [go_sem]
  first | refine iteW_dec (fun h1 => ?_) (fun h1 => ?_) | refine iteW_of (fun h1 => ?_) (fun h1 => ?_)
  · have hcl : (candP n i env down rs).length ≤ 1000000000000 := by
      have h1 := List.length_filterMap_le (viaO n i rs) (nearP n i down)
      have h2 := List.length_filter_le (nearB n i down) (List.range n.routers.length)
      have h3 : (nearP n i down).length ≤ n.routers.length := by unfold nearP; rw [List.length_map]; simpa using h2
      have h4 : (ownL n i).length ≤ 1 := by unfold ownL; split <;> simp
      have h5 : (outL n i env).length ≤ 1 := by unfold outL; split <;> simp
      simp only [candP, List.length_append]; omega
    simp (disch := omega) only [go_sem]
    refine W_drawW ?_
    refine DRun.mixE rfl ?_
    have hq := rt_dec (bestP (candP n i env down rs)) (rs.getD i default)
    have hrc : (rtC (rs.getD i default)).take 4 = rtC (rs.getD i default) := rfl
    have hrl : (rtC (rs.getD i default)).length = 4 := rfl
    simp (disch := omega) only [g4, hlen, hlen2, hrc, hrl, go_sem]
    refine DS.callB (l07Candidates_ok (ex := ex) (ex2 := ex2) (ex3 := ex3) hn ho he hd hl hr) ⟨[], rfl, rfl⟩ rfl rfl ?_
    simp (disch := omega) only [go_sem]
    refine DS.callB (l07Best_ok (ex := false) hcl) ⟨[], rfl, rfl⟩ rfl rfl ?_
    simp (disch := omega) only [go_sem]
    refine ⟨trivial, ?_⟩
    simp (disch := omega) only [hq, go_sem]
    first | refine iteW_dec (fun c1 => ?_) (fun c1 => ?_) | refine iteW_of (fun c1 => ?_) (fun c1 => ?_)
    · have hb : stableB n env down rs = false := range_not (i := i) (by omega) (decide_eq_false c1)
      simp (disch := omega) only [go_sem]
      exact W_retC c121_ok rfl (Conv.drop _ hσ) ⟨by rw [hb]; rfl, rfl⟩
    · have c2 := Decidable.not_not.1 c1
      simp (disch := omega) only [go_sem]
      refine ih (i + 1) _ _ ⟨by omega, fun j hj => ?_⟩ (by omega) (by simp (disch := omega) only [subT, Int.natCast_add, Int.cast_ofNat_Int, go_sem] <;> (repeat' apply And.intro) <;> first | rfl | (congr 1; omega) | assumption) rfl
      by_cases e : j = i
      · subst e; exact c2
      · exact hall j (by omega)
  · have hil : i = rs.length := by omega
    subst hil
    have hb : stableB n env down rs = true := range_all fun j hj => decide_eq_true (hall j hj)
    simp (disch := omega) only [go_sem]
    exact W_retC c121_ok rfl (Conv.drop _ hσ) ⟨by rw [hb]; rfl, rfl⟩
end
section
attribute [local irreducible] SRun DS DRun
variable {Γ : St} {σ σ0 : St}
theorem frz_rows {σ' : St} {b es cap : Nat} {xs : List V} (hb : σ b = some (flat xs)) (hb' : σ' b = none) (hx : ∀ y ∈ xs, y.cells.length = es ∧ ∀ c ∈ y.cells, c.one = true) : Frz σ σ' (.msl b es 0 xs.length cap) (.isl false es xs) := by
  have hfl : (flat xs).length = xs.length * es := flat_length fun x hm => (hx x hm).1
  refine .msl b es 0 xs.length cap (flat xs) xs hb hb' (by omega) rfl (fun x hm => (hx x hm).1) hfl (fun i x hi => flat_ones (fun x hm => (hx x hm).2) x (List.mem_of_getElem? hi)) (fun i x y hy hx' => ?_)
  rw [Nat.zero_add] at hy
  rw [hy] at hx'; obtain rfl := Option.some.inj hx'; exact .refl _
theorem set_append4 {a b c d : V} {r : List V} : ∀ (k : Nat) (x : V), ((a :: b :: c :: d :: r).set (k + 4) x) = a :: b :: c :: d :: r.set k x := fun k x => rfl
theorem sets_shift {a b c d : V} : ∀ (ys r : List V) (k : Nat), sets (a :: b :: c :: d :: r) (k + 4) ys = a :: b :: c :: d :: sets r k ys := by
  intro ys
  induction ys with
  | nil => intro r k; rfl
  | cons y ys ih => intro r k; simp only [sets, set_append4]; rw [show k + 4 + 1 = (k + 1) + 4 by omega, ih]
theorem sets_rts : ∀ (rs : List Rt) (i : Nat) (r : Rt), i < rs.length → sets (flat (rtsV rs)) (i * 4) (rtC r) = flat (rtsV (rs.set i r)) := by
  intro rs
  induction rs with
  | nil => intro i r h; simp at h
  | cons a rs ih =>
    intro i r h
    cases i with
    | zero => rfl
    | succ i =>
      have := ih i r (by simpa using h)
      have e : flat (rtsV (a :: rs)) = .int .i64 a.via :: .int .i64 a.pref :: .int .i64 a.len :: .bool a.mark :: flat (rtsV rs) := rfl
      rw [e, show (i + 1) * 4 = i * 4 + 4 by omega, sets_shift, this]; rfl
theorem flat_rts_len (rs : List Rt) : (flat (rtsV rs)).length = rs.length * 4 := by
  have := flat_length (es := 4) (xs := rtsV rs) fun x hx => (rts_ok rs x hx).1
  rw [this, rtsV_len]
theorem bools_get {bs : List Bool} {i : Nat} (h : i < bs.length) : (bools bs)[i]? = some (.bool (bs.getD i false)) := by simp [bools, List.getD, h]
theorem bools_set {bs : List Bool} {i : Nat} {x : Bool} : (bools bs).set i (.bool x) = bools (bs.set i x) := by simp [bools, List.map_set]
theorem ofI_w {n : Net} (hn : NetR n) {down : List Bool} {s : List Rt × List Bool} (h : OfI n down s) (hl : s.1.length = n.routers.length) : RtsW s.1 := by
  have r1 := hn.r1
  have r4 := hn.r4
  have hc : s.2.count true ≤ s.2.length := List.count_le_length
  have hlen := h.len
  have hd : ∀ v : Int, ¬ v.toNat < s.1.length → rtAt s.1 v = default := fun v hv => by simp [rtAt, List.getD, List.getElem?_eq_none (by omega : s.1.length ≤ v.toNat)]
  constructor
  · intro v
    by_cases hv : v.toNat < s.1.length
    · have := (h.ok _ hv).via.2
      unfold rtAt; omega
    · rw [hd v hv]; show (0 : Int) < _; omega
  · intro v
    by_cases hv : v.toNat < s.1.length
    · have := (h.ok _ hv).len
      unfold rtAt; omega
    · rw [hd v hv]; show (0 : Int) ≤ 0 ∧ (0 : Int) ≤ _; omega
section
variable (n : Net) (env : List Int) (down : List Bool) (vias : List Int)
def ofEnd (s : List Rt × List Bool) : Option (List Rt) := if s.2.all id then some s.1 else none
def ofR (m : Nat) (s : List Rt × List Bool) : Option (List Rt) := ((List.range' m (vias.length + 1 - m)).foldlM (fun s _ => ofRound n env down vias s) s).bind ofEnd
def ofJ (m i : Nat) (s : List Rt × List Bool) : Option (List Rt) := ((List.range' i (vias.length - i)).foldlM (ofStep n env down vias) s).bind (ofR n env down vias (m + 1))
variable {n env down vias}
theorem ofP_R : ofP n env down vias = ofR n env down vias 0 (List.replicate vias.length noRt, List.replicate vias.length false) := by
  unfold ofP ofR; rw [List.range_eq_range']; rfl
theorem ofR_J {m : Nat} {s : List Rt × List Bool} (h : m ≤ vias.length) : ofR n env down vias m s = ofJ n env down vias m 0 s := by
  unfold ofR ofJ
  rw [show vias.length + 1 - m = (vias.length - m) + 1 by omega, List.range'_succ, List.foldlM_cons]
  show (Option.bind (ofRound n env down vias s) _).bind ofEnd = _
  unfold ofRound
  rw [List.range_eq_range', Nat.sub_zero, Option.bind_assoc]
  congr 1
  funext t
  unfold ofR
  rw [show vias.length + 1 - (m + 1) = vias.length - m by omega]
  simp only [ofRound, List.range_eq_range']
theorem ofJ_end {m : Nat} {s : List Rt × List Bool} : ofJ n env down vias m vias.length s = ofR n env down vias (m + 1) s := by
  unfold ofJ; rw [Nat.sub_self]; rfl
theorem ofJ_step {m i : Nat} {s : List Rt × List Bool} (h : i < vias.length) : ofJ n env down vias m i s = (ofStep n env down vias s i).bind (ofJ n env down vias m (i + 1)) := by
  unfold ofJ
  rw [show vias.length - i = (vias.length - (i + 1)) + 1 by omega, List.range'_succ, List.foldlM_cons]
  show (Option.bind _ _).bind _ = _
  rw [Option.bind_assoc]
theorem ofR_end {s : List Rt × List Bool} : ofR n env down vias (vias.length + 1) s = ofEnd s := by
  unfold ofR; rw [Nat.sub_self]; rfl
end
/-- What is picked: the last that has the way. -/
def pickV (v : Int) (l : List Rt) (o : List Rt) (i : Nat) : List Rt := match (l.filter fun r => decide (r.via = v)).getLast? with | none => o | some r => o.set i r
def hasV (v : Int) (l : List Rt) : Bool := l.any fun r => decide (r.via = v)
theorem pickV_snoc {v : Int} {l o : List Rt} {i : Nat} {r : Rt} : pickV v (l ++ [r]) o i = if r.via = v then (pickV v l o i).set i r else pickV v l o i := by
  unfold pickV
  rw [List.filter_append]
  by_cases h : r.via = v
  · rw [if_pos h]
    have : [r].filter (fun r => decide (r.via = v)) = [r] := by simp [h]
    rw [this, List.getLast?_append]
    simp only [List.getLast?_singleton, Option.or_some, Option.getD_some, Option.some_or]
    cases (l.filter fun r => decide (r.via = v)).getLast? <;> simp
  · rw [if_neg h]
    have : [r].filter (fun r => decide (r.via = v)) = [] := by simp [h]
    rw [this, List.append_nil]
theorem hasV_snoc {v : Int} {l : List Rt} {r : Rt} : hasV v (l ++ [r]) = (hasV v l || decide (r.via = v)) := by simp [hasV, List.any_append]
theorem pickV_len {v : Int} {l o : List Rt} {i : Nat} : (pickV v l o i).length = o.length := by unfold pickV; split <;> simp
theorem ofStep_pick {n : Net} {env : List Int} {down : List Bool} {vias : List Int} {s : List Rt × List Bool} {i : Nat} (h1 : s.2.getD i false = false) (h2 : ¬ (0 ≤ vias.getD i 0 ∧ s.2.getD (vias.getD i 0).toNat false = false)) (h3 : vias.getD i 0 ≠ -3) :
    ofStep n env down vias s i = if hasV (vias.getD i 0) (candP n i env down s.1) then some (pickV (vias.getD i 0) (candP n i env down s.1) s.1 i, s.2.set i true) else none := by
  unfold ofStep
  rw [if_neg (by rw [h1]; simp; intro h; have := h2; simp at this; exact this h), if_neg h3]
  unfold pickV hasV
  cases hg : ((candP n i env down s.1).filter fun r => decide (r.via = vias.getD i 0)).getLast? with
  | none =>
    rw [List.getLast?_eq_none_iff, List.filter_eq_nil_iff] at hg
    rw [if_neg (by rw [Bool.not_eq_true, List.any_eq_false]; exact hg)]
  | some r =>
    have hm := List.mem_of_getLast? hg
    rw [List.mem_filter] at hm
    rw [if_pos (List.any_eq_true.2 ⟨r, hm.1, hm.2⟩)]
theorem flat_false (m : Nat) : (List.replicate m [V.bool false]).flatten = bools (List.replicate m false) := by
  induction m with
  | zero => rfl
  | succ m ih => rw [List.replicate_succ, List.flatten_cons, ih]; rfl
set_option maxHeartbeats 2000000 in
theorem l07Of_ok {n : Net} {ex ex2 ex3 : Bool} {env : List Int} {down : List Bool} {vias : List Int} (hn : NetR n) (ho : n.origins.length ≤ 1000000000000) (he : env.length = n.externals.length) (hd : down.length = n.links.length) (hl : vias.length = n.routers.length) (hv : ∀ v ∈ vias, v < vias.length) :
    ACalls Tryz.prog Γ 120 [netV n, .isl ex 1 (ints env), .isl ex2 1 (bools down), .isl ex3 1 (ints vias)] σ fun r s => s = σ ∧ ∃ rs', r = .tup [.isl false 4 (rtsV rs'), .bool (ofP n env down vias).isSome] ∧ ∀ rs, ofP n env down vias = some rs → rs' = rs := by
  have r1 := hn.r1
  have r4 := hn.r4
  have hlen : (netC n).take 6 = netC n := rfl
  have hlen2 : (netC n).length = 6 := rfl
  refine acalls_W c120_ok rfl ?_
  simp (disch := omega) only [c120, netV, go_sem]
  refine SRun.boxR (net_one n) ?_
  intro b4 hb4
  have g4 := upd_same σ b4 (netC n)
  have hσ : ∀ d x, σ d = some x → upd σ b4 (netC n) d = some x := le_upd hb4
  simp (disch := omega) only [go_sem]
  generalize upd σ b4 (netC n) = s1 at *
  refine W_loopC (α := Nat × V × St) (fun p => p.1 ≤ vias.length ∧ OwnL s1 4 (rtsV (List.replicate p.1 noRt)) p.2.1 p.2.2) (fun p => [(1, .isl ex 1 (ints env)), (2, .isl ex2 1 (bools down)), (3, .isl ex3 1 (ints vias)), (4, .ptr b4 0), (10, p.2.1), (11, .int .i64 (p.1 : Nat))]) (fun p => p.2.2) (fun p => vias.length - p.1) (0, _, _) ⟨by simp, OwnL.nil _ 4⟩ (by simp (disch := omega) only [subT, Int.natCast_add, Int.cast_ofNat_Int, go_sem] <;> (repeat' apply And.intro) <;> first | rfl | (congr 1; omega) | assumption) rfl ?_
  rintro ⟨i, q, s⟩ ⟨hi, ho1⟩ ih
  dsimp only at hi ho1
  simp (disch := omega) only [go_sem]
  first | refine iteW_dec (fun h1 => ?_) (fun h1 => ?_) | refine iteW_of (fun h1 => ?_) (fun h1 => ?_)
  · simp (disch := omega) only [go_sem]
    refine SRun.callR l07None_ok ⟨[], rfl, rfl⟩ rfl ?_
    have hnr : rtC noRt = [.int .i64 (-3), .int .i64 0, .int .i64 0, .bool false] := rfl
    simp (disch := omega) only [hnr, go_sem]
    refine SRun.appL ho1 rfl (rt1_ok noRt) (by rw [rtsV_len, List.length_replicate]; simp only [List.length_singleton]; omega) ?_
    intro q2 s2 ho2
    have ha := rts_app (List.replicate i noRt) noRt
    rw [hnr] at ha
    rw [ha, ← List.replicate_succ'] at ho2
    simp (disch := omega) only [go_sem]
    exact ih (i + 1, q2, s2) _ _ ⟨by simp only; omega, ho2⟩ (by simp only; omega) (by simp (disch := omega) only [subT, Int.natCast_add, Int.cast_ofNat_Int, go_sem] <;> (repeat' apply And.intro) <;> first | rfl | (congr 1; omega) | assumption) rfl
  clear ih
  have hir : i = vias.length := by omega
  subst hir
  obtain ⟨bo, cap, rfl, gbo, hcap, hbo, rfl⟩ := ho1.at (by
    intro e
    have := congrArg List.length e
    rw [rtsV_len, List.length_replicate] at this
    simp only [List.length_nil] at this; omega)
  rw [rtsV_len, List.length_replicate]
  simp (disch := omega) only [go_sem]
  refine SRun.mkslR (n' := vias.length) (m := vias.length) rfl rfl rfl (Nat.le_refl _) (by omega) (by omega) ?_
  intro bd hbd
  rw [flat_false]
  have n1 := upd_none.1 hbd
  have hdo : bd ≠ bo := n1.1
  have hod : bo ≠ bd := n1.1.symm
  have hb4o : b4 ≠ bo := fun e => by subst e; rw [g4] at hbo; cases hbo
  have hb4d : b4 ≠ bd := fun e => by subst e; rw [g4] at n1; cases n1.2
  have gm4 : ∀ x y, upd (upd s1 bo x) bd y b4 = some (netC n) := fun x y => by rw [upd_ne _ _ hb4d, upd_ne _ _ hb4o]; exact g4
  have gmo : ∀ x y, upd (upd s1 bo x) bd y bo = some x := fun x y => by rw [upd_ne _ _ hod, upd_same]
  have hso : ∀ x y z, upd (upd (upd s1 bo x) bd y) bo z = upd (upd s1 bo z) bd y := fun x y z => by rw [upd_comm _ hod.symm, upd_upd]
  have hmσ : ∀ x y d z, σ d = some z → upd (upd s1 bo x) bd y d = some z := fun x y d z h => le_two hbo n1.2 x y d z (hσ _ _ h)
  have hfz : ∀ (rs : List Rt) y, rs.length = vias.length → Frz (upd (upd s1 bo (flat (rtsV rs))) bd y) σ (.msl bo 4 0 vias.length cap) (.isl false 4 (rtsV rs)) := fun rs y hr => by
    have := frz_rows (σ := upd (upd s1 bo (flat (rtsV rs))) bd y) (σ' := σ) (b := bo) (es := 4) (cap := cap) (xs := rtsV rs) (gmo _ _) (by
      cases e : σ bo with
      | none => rfl
      | some c => rw [hσ _ _ e] at hbo; cases hbo) (rts_ok rs)
    rwa [rtsV_len, hr] at this
  have hfze : ∀ (rs : List Rt) y, rs.length = vias.length → Frz (upd (upd s1 bo (flat (rtsV rs))) bd y) emp (.msl bo 4 0 vias.length cap) (.isl false 4 (rtsV rs)) := fun rs y hr => by
    have := frz_rows (σ := upd (upd s1 bo (flat (rtsV rs))) bd y) (σ' := emp) (b := bo) (es := 4) (cap := cap) (xs := rtsV rs) (gmo _ _) rfl (rts_ok rs)
    rwa [rtsV_len, hr] at this
  clear h1 hi gbo hbd ho1
  simp (disch := omega) only [go_sem]
  refine W_loopC (α := Nat × List Rt × List Bool) (fun p => p.1 ≤ vias.length + 1 ∧ p.2.1.length = vias.length ∧ p.2.2.length = vias.length ∧ OfI n down p.2 ∧ ofP n env down vias = ofR n env down vias p.1 p.2) (fun p => [(1, .isl ex 1 (ints env)), (2, .isl ex2 1 (bools down)), (3, .isl ex3 1 (ints vias)), (4, .ptr b4 0), (10, .msl bo 4 0 vias.length cap), (12, .msl bd 1 0 vias.length vias.length), (13, .int .i64 (p.1 : Nat))]) (fun p => upd (upd s1 bo (flat (rtsV p.2.1))) bd (bools p.2.2)) (fun p => vias.length + 1 - p.1) (0, List.replicate vias.length noRt, List.replicate vias.length false) ⟨by simp, by simp, by simp, ofI_start n down _, ofP_R⟩ (by simp (disch := omega) only [subT, Int.natCast_add, Int.cast_ofNat_Int, go_sem] <;> (repeat' apply And.intro) <;> first | rfl | (congr 1; omega) | assumption) rfl ?_
  rintro ⟨m, rs, ds⟩ ⟨hm, hrl, hdl, hI, hP⟩ ih
  dsimp only at hm hrl hdl hI hP
  simp (disch := omega) only [go_sem]
  first | refine iteW_dec (fun h1 => ?_) (fun h1 => ?_) | refine iteW_of (fun h1 => ?_) (fun h1 => ?_)
  · rw [ofR_J (by omega)] at hP
    simp (disch := omega) only [go_sem]
    refine W_loopC (α := Nat × List Rt × List Bool) (fun p => p.1 ≤ vias.length ∧ p.2.1.length = vias.length ∧ p.2.2.length = vias.length ∧ OfI n down p.2 ∧ ofP n env down vias = ofJ n env down vias m p.1 p.2) (fun p => [(1, .isl ex 1 (ints env)), (2, .isl ex2 1 (bools down)), (3, .isl ex3 1 (ints vias)), (4, .ptr b4 0), (10, .msl bo 4 0 vias.length cap), (12, .msl bd 1 0 vias.length vias.length), (13, .int .i64 (m : Nat)), (14, .int .i64 (p.1 : Nat))]) (fun p => upd (upd s1 bo (flat (rtsV p.2.1))) bd (bools p.2.2)) (fun p => vias.length - p.1) (0, rs, ds) ⟨by simp, hrl, hdl, hI, hP⟩ (by simp (disch := omega) only [subT, Int.natCast_add, Int.cast_ofNat_Int, go_sem] <;> (repeat' apply And.intro) <;> first | rfl | (congr 1; omega) | assumption) rfl ?_
    clear hI hP hrl hdl
    rintro ⟨i, rs, ds⟩ ⟨hi, hrl, hdl, hI, hP⟩ ih2
    dsimp only at hi hrl hdl hI hP
    have hds := fun (k : Nat) (hk : k < vias.length) => bools_get (bs := ds) (i := k) (by omega)
    have hbl : (bools ds).length = vias.length := by rw [bools_len]; exact hdl
    simp (disch := omega) only [go_sem]
    first | refine iteW_dec (fun h2 => ?_) (fun h2 => ?_) | refine iteW_of (fun h2 => ?_) (fun h2 => ?_)
    · rw [ofJ_step (by omega)] at hP
      have hvi := hv _ (getD_mem 0 (by omega : i < vias.length))
      have hgi := hds i (by omega)
      have hstep := ofStep_pick (n := n) (env := env) (down := down) (vias := vias) (s := (rs, ds)) (i := i)
      have hdef : ofStep n env down vias (rs, ds) i = if ds.getD i false ∨ (0 ≤ vias.getD i 0 ∧ ds.getD (vias.getD i 0).toNat false = false) then some (rs, ds) else if vias.getD i 0 = -3 then some (rs, ds.set i true) else match ((candP n i env down rs).filter fun r => decide (r.via = vias.getD i 0)).getLast? with | none => none | some r => some (rs.set i r, ds.set i true) := rfl
      have hinv := fun t => ofStep_inv hn (env := env) (down := down) (vias := vias) (s := (rs, ds)) (t := t) (i := i) (by rw [hrl]; omega) hI
      dsimp only at hstep
      have hskip : ofStep n env down vias (rs, ds) i = some (rs, ds) → ofP n env down vias = ofJ n env down vias m (i + 1) (rs, ds) := fun e => by rw [hP, e]; rfl
      generalize hgv : vias.getD i 0 = v at *
      generalize hgd : ds.getD i false = di at *
      have hsome := fun t (e : ofStep n env down vias (rs, ds) i = some t) => (by rw [hP, e]; rfl : ofP n env down vias = ofJ n env down vias m (i + 1) t)
      simp (disch := omega) only [hgi, hgv, go_sem]
      cases di with
      | true =>
        simp (disch := omega) only [go_sem]
        exact ih2 (i + 1, rs, ds) _ _ ⟨by simp only; omega, hrl, hdl, hI, hskip (by rw [hdef, if_pos (.inl rfl)])⟩ (by simp only; omega) (by simp (disch := omega) only [subT, Int.natCast_add, Int.cast_ofNat_Int, go_sem] <;> (repeat' apply And.intro) <;> first | rfl | (congr 1; omega) | assumption) rfl
      | false =>
      by_cases c0 : 0 ≤ v ∧ ds.getD v.toNat false = false
      · have hgv2 := hds v.toNat (by omega)
        rw [c0.2] at hgv2
        have d1 : decide (v ≥ 0) = true := decide_eq_true c0.1
        simp (disch := omega) only [hgv2, d1, go_sem]
        exact ih2 (i + 1, rs, ds) _ _ ⟨by simp only; omega, hrl, hdl, hI, hskip (by rw [hdef, if_pos (.inr c0)])⟩ (by simp only; omega) (by simp (disch := omega) only [subT, Int.natCast_add, Int.cast_ofNat_Int, go_sem] <;> (repeat' apply And.intro) <;> first | rfl | (congr 1; omega) | assumption) rfl
      · have hno : ¬ (false = true ∨ 0 ≤ v ∧ ds.getD v.toNat false = false) := by simpa using c0
        by_cases h3 : v = -3
        · have d1 : decide (v ≥ 0) = false := decide_eq_false (by omega)
          have d3 : decide (v = -3) = true := decide_eq_true h3
          have e1 : ofStep n env down vias (rs, ds) i = some (rs, ds.set i true) := by rw [hdef, if_neg hno, if_pos h3]
          simp (disch := omega) only [d1, d3, upd_upd, bools_set, go_sem]
          exact ih2 (i + 1, rs, ds.set i true) _ _ ⟨by simp only; omega, hrl, by simpa using hdl, (hinv _ e1).1, hsome _ e1⟩ (by simp only; omega) (by simp (disch := omega) only [subT, Int.natCast_add, Int.cast_ofNat_Int, go_sem] <;> (repeat' apply And.intro) <;> first | rfl | (congr 1; omega) | assumption) rfl
        have d3 : decide (v = -3) = false := decide_eq_false h3
        by_cases c1 : v ≥ 0
        case' pos =>
          have hgv2 := hds v.toNat (by omega)
          have c2 : ds.getD v.toNat false = true := by
            cases e : ds.getD v.toNat false with
            | true => rfl
            | false => exact absurd ⟨c1, e⟩ c0
          rw [c2] at hgv2
          have d1 : decide (v ≥ 0) = true := decide_eq_true c1
          simp (disch := omega) only [hgv2, d1, d3, upd_upd, bools_set, gm4, hlen, hlen2, go_sem]
        case' neg =>
          have d1 : decide (v ≥ 0) = false := decide_eq_false c1
          simp (disch := omega) only [d1, d3, upd_upd, bools_set, gm4, hlen, hlen2, go_sem]
        all_goals
          · have hst := hstep rfl c0 h3
            have hcl : (candP n i env down rs).length ≤ 1000000000000 := by
              have h1 := List.length_filterMap_le (viaO n i rs) (nearP n i down)
              have h2 := List.length_filter_le (nearB n i down) (List.range n.routers.length)
              have h3 : (nearP n i down).length ≤ n.routers.length := by unfold nearP; rw [List.length_map]; simpa using h2
              have h4 : (ownL n i).length ≤ 1 := by unfold ownL; split <;> simp
              have h5 : (outL n i env).length ≤ 1 := by unfold outL; split <;> simp
              simp only [candP, List.length_append]; omega
            have hC := fun y => l07Candidates_lend (Γ := Γ) (σ := upd (upd s1 bo (flat (rtsV rs))) bd y) (ex := ex) (ex2 := ex2) (router := (i : Nat)) hn ho he hd (hrl.trans hl) (ofI_w hn hI (hrl.trans hl)) (hfze rs y hrl)
            refine SRun.callR (hC _) ⟨[], rfl, rfl⟩ rfl ?_
            generalize candP n i env down rs = cd at *
            simp (disch := omega) only [go_sem]
            refine W_loopC (α := Nat) (fun k => k ≤ cd.length) (fun k => [(1, .isl ex 1 (ints env)), (2, .isl ex2 1 (bools down)), (3, .isl ex3 1 (ints vias)), (4, .ptr b4 0), (10, .msl bo 4 0 vias.length cap), (12, .msl bd 1 0 vias.length vias.length), (13, .int .i64 (m : Nat)), (14, .int .i64 (i : Nat)), (15, .int .i64 v), (16, .bool (hasV v (cd.take k))), (17, .isl false 4 (rtsV cd)), (18, .int .i64 (k : Nat))]) (fun k => upd (upd s1 bo (flat (rtsV (pickV v (cd.take k) rs i)))) bd (bools (ds.set i true))) (fun k => cd.length - k) 0 (by omega) (by simp (disch := omega) only [subT, Int.natCast_add, Int.cast_ofNat_Int, go_sem] <;> (repeat' apply And.intro) <;> first | rfl | (congr 1; omega) | assumption) rfl ?_
            intro k hk ih3
            simp (disch := omega) only [go_sem]
            first | refine iteW_dec (fun h4 => ?_) (fun h4 => ?_) | refine iteW_of (fun h4 => ?_) (fun h4 => ?_)
            · have htk := take_succ (xs := cd) (i := k) default (by omega)
              have hrt0 : ∀ r : Rt, (rtC r)[0]? = some (.int .i64 r.via) := fun _ => rfl
              have hrt4 : ∀ r : Rt, (rtC r).take 4 = rtC r := fun _ => rfl
              have hrt5 : ∀ r : Rt, (rtC r).length = 4 := fun _ => rfl
              have hpl : (pickV v (cd.take k) rs i).length = rs.length := pickV_len
              have hfl := flat_rts_len (pickV v (cd.take k) rs i)
              have hp := pickV_snoc (v := v) (l := cd.take k) (o := rs) (i := i) (r := cd.getD k default)
              have hh := hasV_snoc (v := v) (l := cd.take k) (r := cd.getD k default)
              have hsr := sets_rts (pickV v (cd.take k) rs i) i (cd.getD k default) (by omega)
              rw [← htk] at hp hh
              simp (disch := omega) only [hrt0, go_sem]
              generalize hgx : cd.getD k default = x at *
              first | refine iteW_dec (fun h5 => ?_) (fun h5 => ?_) | refine iteW_of (fun h5 => ?_) (fun h5 => ?_)
              · rw [if_pos h5] at hp
                rw [decide_eq_true h5, Bool.or_true] at hh
                simp (disch := omega) only [hrt4, hrt5, gmo, hfl, hpl, hgx, hsr, hso, go_sem]
                exact ih3 (k + 1) _ _ (by omega) (by omega) (by rw [hh]; exact (by simp (disch := omega) only [subT, Int.natCast_add, Int.cast_ofNat_Int, go_sem] <;> (repeat' apply And.intro) <;> first | rfl | (congr 1; omega) | assumption)) (by rw [hp])
              · rw [if_neg h5] at hp
                rw [decide_eq_false h5, Bool.or_false] at hh
                simp (disch := omega) only [go_sem]
                exact ih3 (k + 1) _ _ (by omega) (by omega) (by rw [hh]; exact (by simp (disch := omega) only [subT, Int.natCast_add, Int.cast_ofNat_Int, go_sem] <;> (repeat' apply And.intro) <;> first | rfl | (congr 1; omega) | assumption)) (by rw [hp])
            · have hkl : k = cd.length := by omega
              subst hkl
              clear ih3
              rw [List.take_length]
              have hpl : (pickV v cd rs i).length = rs.length := pickV_len
              simp (disch := omega) only [go_sem]
              cases c5 : hasV v cd with
              | true =>
                rw [c5, if_pos rfl] at hst
                simp (disch := omega) only [go_sem]
                exact ih2 (i + 1, pickV v cd rs i, ds.set i true) _ _ ⟨by simp only; omega, by simp only; omega, by simpa using hdl, (hinv _ hst).1, hsome _ hst⟩ (by simp only; omega) (by simp (disch := omega) only [subT, Int.natCast_add, Int.cast_ofNat_Int, go_sem] <;> (repeat' apply And.intro) <;> first | rfl | (congr 1; omega) | assumption) rfl
              | false =>
                rw [c5, if_neg (by simp)] at hst
                have hnone : ofP n env down vias = none := by rw [hP, hst]; rfl
                rw [hnone]
                simp (disch := omega) only [go_sem]
                exact W_retC c120_ok (r := .tup [.msl bo 4 0 vias.length cap, .bool false]) (σ' := σ) (r' := .tup [.isl false 4 (rtsV (pickV v cd rs i)), .bool false]) rfl ⟨hmσ _ _, frz_tup (by exact ⟨hfz _ _ (by omega), .refl _, trivial⟩)⟩ ⟨rfl, _, rfl⟩
    · have hil : i = vias.length := by omega
      subst hil
      rw [ofJ_end] at hP
      simp (disch := omega) only [go_sem]
      exact ih (m + 1, rs, ds) _ _ ⟨by simp only; omega, hrl, hdl, hI, hP⟩ (by simp only; omega) (by simp (disch := omega) only [subT, Int.natCast_add, Int.cast_ofNat_Int, go_sem] <;> (repeat' apply And.intro) <;> first | rfl | (congr 1; omega) | assumption) rfl
  · have hml : m = vias.length + 1 := by omega
    subst hml
    rw [ofR_end] at hP
    clear ih h1 hm
    simp (disch := omega) only [go_sem]
    have hen : ofEnd (rs, ds) = if ds.all id then some rs else none := rfl
    refine W_loopC (α := Nat) (fun i => i ≤ vias.length ∧ (ds.take i).all id = true) (fun i => [(10, .msl bo 4 0 vias.length cap), (12, .msl bd 1 0 vias.length vias.length), (19, .int .i64 (i : Nat))]) (fun _ => upd (upd s1 bo (flat (rtsV rs))) bd (bools ds)) (fun i => vias.length - i) 0 ⟨by omega, rfl⟩ (by simp (disch := omega) only [subT, Int.natCast_add, Int.cast_ofNat_Int, go_sem] <;> (repeat' apply And.intro) <;> first | rfl | (congr 1; omega) | assumption) rfl ?_
    rintro i ⟨hi, hall⟩ ih
    simp (disch := omega) only [go_sem]
    first | refine iteW_dec (fun h1 => ?_) (fun h1 => ?_) | refine iteW_of (fun h1 => ?_) (fun h1 => ?_)
    · have hgi := bools_get (bs := ds) (i := i) (by omega)
      have htk := take_succ (xs := ds) (i := i) false (by omega)
      have hmem := getD_mem (xs := ds) false (by omega : i < ds.length)
      simp (disch := omega) only [hgi, go_sem]
      generalize ds.getD i false = di at *
      cases di with
      | true =>
        simp (disch := omega) only [go_sem]
        exact ih (i + 1) _ _ ⟨by omega, by rw [htk, List.all_append, hall]; rfl⟩ (by omega) (by simp (disch := omega) only [subT, Int.natCast_add, Int.cast_ofNat_Int, go_sem] <;> (repeat' apply And.intro) <;> first | rfl | (congr 1; omega) | assumption) rfl
      | false =>
        have : ds.all id = false := by rw [List.all_eq_false]; exact ⟨false, hmem, by simp⟩
        rw [hen, if_neg (by rw [this]; simp)] at hP
        rw [hP]
        simp (disch := omega) only [go_sem]
        exact W_retC c120_ok (r := .tup [.msl bo 4 0 vias.length cap, .bool false]) (σ' := σ) (r' := .tup [.isl false 4 (rtsV rs), .bool false]) rfl ⟨hmσ _ _, frz_tup (by exact ⟨hfz _ _ (by omega), .refl _, trivial⟩)⟩ ⟨rfl, _, rfl⟩
    · have hil : i = ds.length := by omega
      rw [hil, List.take_length] at hall
      rw [hen, if_pos hall] at hP
      rw [hP]
      simp (disch := omega) only [go_sem]
      exact W_retC c120_ok (r := .tup [.msl bo 4 0 vias.length cap, .bool true]) (σ' := σ) (r' := .tup [.isl false 4 (rtsV rs), .bool true]) rfl ⟨hmσ _ _, frz_tup (by exact ⟨hfz _ _ (by omega), .refl _, trivial⟩)⟩ ⟨rfl, _, rfl, fun rs h => h⟩
end
section
attribute [local irreducible] SRun DS DRun
variable {Γ : St} {σ σ0 : St}
theorem ints1_ok (x : Int) : ∀ y ∈ [V.int .i64 x], y.cells.length = 1 ∧ ∀ c ∈ y.cells, c.one = true := ints_ok [x]
set_option maxHeartbeats 1000000 in
theorem l07Options_ok {n : Net} {ex ex2 : Bool} {env : List Int} {down : List Bool} {router : Int} (hn : NetR n) (ho : n.origins.length ≤ 1000000000000) (he : env.length = n.externals.length) (hd : down.length = n.links.length) :
    Ret Tryz.prog Γ 139 [netV n, .int .i64 router, .isl ex 1 (ints env), .isl ex2 1 (bools down)] σ (.isl false 1 (ints (optP n router env down))) σ := by
  have r4 := hn.r4
  have l6 := hn.l6
  have x2 := hn.x2
  have hlen : (netC n).take 6 = netC n := rfl
  have hlen2 : (netC n).length = 6 := rfl
  have e2 : (netC n)[2]? = some (.isl false 1 (ints n.origins)) := rfl
  have e3 : (netC n)[3]? = some (.isl false 1 (ints n.externals)) := rfl
  refine ret_of c139_ok rfl ?_
  simp (disch := omega) only [c139, netV, go_sem]
  refine SRun.boxR (net_one n) ?_
  intro b4 hb4
  have g4 := upd_same σ b4 (netC n)
  have hσ : ∀ d x, σ d = some x → upd σ b4 (netC n) d = some x := le_upd hb4
  simp (disch := omega) only [go_sem]
  generalize upd σ b4 (netC n) = s1 at *
  simp (disch := omega) only [g4, e2, go_sem]
  refine SRun.callR (l07Has_ok (ex := false) (xs := n.origins) (x := router) ho) ⟨[], rfl, rfl⟩ rfl ?_
  simp (disch := omega) only [go_sem]
  refine iteW_join (fun T s => ∃ q, OwnL s1 1 (ints (if 0 ≤ hasI n.origins router then [-2] else [])) q s ∧ look T 1 = .int .i64 router ∧ look T 2 = .isl ex 1 (ints env) ∧ look T 3 = .isl ex2 1 (bools down) ∧ look T 4 = .ptr b4 0 ∧ look T 9 = q) (fun k' key => ?_) ?_
  · by_cases h1 : hasI n.origins router ≥ 0
    · have hd1 : decide (hasI n.origins router ≥ 0) = true := decide_eq_true h1
      simp (disch := omega) only [hd1, go_sem]
      refine SRun.appL (OwnL.nil _ 1) rfl (ints1_ok (-2)) (by simp) ?_
      intro q s ho1
      simp (disch := omega) only [go_sem]
      exact key _ _ ⟨q, by rw [if_pos (by omega)]; exact ho1, rfl, rfl, rfl, rfl, rfl⟩
    · have hd1 : decide (hasI n.origins router ≥ 0) = false := decide_eq_false h1
      simp (disch := omega) only [hd1, go_sem]
      exact key _ _ ⟨_, by rw [if_neg (by omega)]; exact OwnL.nil _ 1, rfl, rfl, rfl, rfl, rfl⟩
  rintro T s ⟨q, ho1, k1, k2, k3, k4, k9⟩
  have hol : optL n router env = (if 0 ≤ hasI n.origins router then [-2] else []) ++ (if outB n router env then [-1] else []) := rfl
  have hopt : optP n router env down = (if optL n router env = [] then [-3] else optL n router env) ++ nearP n router down := rfl
  have hb1 : (if 0 ≤ hasI n.origins router then [(-2 : Int)] else []).length ≤ 1 := by split <;> simp
  generalize (if 0 ≤ hasI n.origins router then [(-2 : Int)] else []) = l1 at *
  have hx1 : n.externals.length ≤ 1000000000000 := by omega
  simp (disch := omega) only [ho1.get g4, e3, k1, k2, k3, k4, go_sem]
  refine SRun.callR (l07Has_ok (ex := false) (xs := n.externals) (x := router) hx1) ⟨[], rfl, rfl⟩ rfl ?_
  have hx := hasI_in n.externals router
  have hob : outB n router env = (decide (0 ≤ hasI n.externals router) && decide (0 < env.getD (hasI n.externals router).toNat 0)) := rfl
  have hxb : (hasI n.externals router ≥ 0 ∧ outB n router env = decide (env.getD (hasI n.externals router).toNat 0 > 0)) ∨ (hasI n.externals router < 0 ∧ outB n router env = false) := by
    by_cases h : 0 ≤ hasI n.externals router
    · exact .inl ⟨h, by rw [hob, decide_eq_true h]; rfl⟩
    · exact .inr ⟨by omega, by rw [hob, decide_eq_false h]; rfl⟩
  rcases hxb with ⟨hx0, hb⟩ | ⟨hx0, hb⟩
  case' inl =>
    have hd1 : decide (hasI n.externals router ≥ 0) = true := decide_eq_true hx0
    simp (disch := omega) only [hd1, k1, k2, k3, k4, k9, go_sem]
    refine iteW_join (fun T s => ∃ q, OwnL s1 1 (ints (optL n router env)) q s ∧ look T 1 = .int .i64 router ∧ look T 3 = .isl ex2 1 (bools down) ∧ look T 4 = .ptr b4 0 ∧ look T 9 = q) (fun k' key => ?_) ?_
    · rw [hol, hb] at key
      first | refine iteW_dec (fun h3 => ?_) (fun h3 => ?_) | refine iteW_of (fun h3 => ?_) (fun h3 => ?_)
      · rw [if_pos (by simpa using h3)] at key
        simp (disch := omega) only [hd1, k1, k2, k3, k4, k9, go_sem]
        refine SRun.appL ho1 rfl (ints1_ok (-1)) (by rw [ints_len]; simp only [List.length_singleton]; omega) ?_
        intro q2 s2 ho2
        rw [ints_app] at ho2
        simp (disch := omega) only [go_sem]
        exact key _ _ ⟨q2, ho2, k1, k3, k4, rfl⟩
      · rw [if_neg (by simpa using h3), List.append_nil] at key
        simp (disch := omega) only [go_sem]
        exact key _ _ ⟨q, ho1, k1, k3, k4, k9⟩
  case' inr =>
    have hd1 : decide (hasI n.externals router ≥ 0) = false := decide_eq_false (by omega)
    have hcl : OwnL s1 1 (ints (optL n router env)) q s := by rw [hol, hb, if_neg (by simp), List.append_nil]; exact ho1
    simp (disch := omega) only [hd1, k1, k2, k3, k4, k9, go_sem]
    clear ho1
    have ho1 := hcl
  case' inl =>
    clear ho1 k1 k2 k3 k4 k9
    rintro T s ⟨q, ho1, k1, k3, k4, k9⟩
  all_goals
    have hol2 : (optL n router env).length ≤ 2 := by rw [hol, List.length_append]; split <;> simp <;> omega
    clear hol
    generalize optL n router env = l2 at *
    have hnl : (nearP n router down).length ≤ 4 := by
      simp only [nearP, List.length_map]
      have := List.length_filter_le (nearB n router down) (List.range n.routers.length)
      rw [List.length_range] at this; omega
    have fin : ∀ q s, OwnL s1 1 (ints (optP n router env down)) q s → Conv s q σ (.isl false 1 (ints (optP n router env down))) := fun q s ho => by
      obtain ⟨s2, h1, h2⟩ := ownL_less ho hσ
      exact ⟨fun d x h => h1 _ _ (h2.le _ _ h), ho.frz (fun _ _ => rfl) fun d h => by
        cases e : σ d with
        | none => rfl
        | some c => rw [hσ _ _ e] at h; cases h⟩
    by_cases c1 : l2 = []
    · subst c1
      have hopt2 : optP n router env down = [-3] ++ nearP n router down := by rw [hopt, if_pos rfl]
      simp (disch := omega) only [k9, stepW_len_own ho1, List.length_nil, go_sem]
      refine SRun.appL ho1 rfl (ints1_ok (-3)) (by simp [ints]) ?_
      intro q2 s2 ho2
      rw [ints_app] at ho2
      simp (disch := omega) only [ho2.get g4, hlen, hlen2, k1, k3, k4, go_sem]
      refine SRun.callR (l06Neighbours_ok (ex := ex2) (n := n) (down := down) (r := router) (by omega) (by omega) hd) ⟨[], rfl, rfl⟩ rfl ?_
      simp (disch := omega) only [go_sem]
      refine SRun.appL ho2 rfl (ints_ok (nearP n router down)) (by simp only [ints_len, List.length_append, List.length_singleton, List.length_nil]; omega) ?_
      intro q3 s3 ho3
      have : ints ([] ++ [-3]) ++ ints (nearP n router down) = ints (optP n router env down) := by rw [hopt2]; simp [ints]
      rw [this] at ho3
      simp (disch := omega) only [go_sem]
      exact W_retC c139_ok rfl (fin _ _ ho3) ⟨rfl, rfl⟩
    · have hopt2 : optP n router env down = l2 ++ nearP n router down := by rw [hopt, if_neg c1]
      have hd0 : decide ((l2.length : Int) = 0) = false := decide_eq_false fun h => c1 (List.eq_nil_of_length_eq_zero (by omega))
      simp (disch := omega) only [k9, stepW_len_own ho1, hd0, ho1.get g4, hlen, hlen2, k1, k3, k4, go_sem]
      refine SRun.callR (l06Neighbours_ok (ex := ex2) (n := n) (down := down) (r := router) (by omega) (by omega) hd) ⟨[], rfl, rfl⟩ rfl ?_
      simp (disch := omega) only [go_sem]
      refine SRun.appL ho1 rfl (ints_ok (nearP n router down)) (by simp only [ints_len]; omega) ?_
      intro q3 s3 ho3
      have : ints l2 ++ ints (nearP n router down) = ints (optP n router env down) := by rw [hopt2]; simp [ints]
      rw [this] at ho3
      simp (disch := omega) only [go_sem]
      exact W_retC c139_ok rfl (fin _ _ ho3) ⟨rfl, rfl⟩
/-- Choices, as a list of lists: a list of nothing has no room. -/
def choV (cs : List (List Int)) : List V := cs.map fun c => .isl c.isEmpty 1 (ints c)
theorem choV_len (cs : List (List Int)) : (choV cs).length = cs.length := by simp [choV]
theorem choV_app (cs : List (List Int)) (c : List Int) (v : Int) : choV cs ++ [.isl false 1 (ints (c ++ [v]))] = choV (cs ++ [c ++ [v]]) := by simp [choV]
section
variable {P : Program} {f : FuncId} {n : Nat} {Q : V → St → Prop} {k : List It} {T : Ts} {g : GI} {l : List GI}
theorem stepW_iaddr_cho {ex : Bool} {xs : List (List Int)} {kk : IntKind} {m : Int} (h0 : 0 ≤ m) (h1 : m < xs.length) : stepW P Γ f n Q (.iaddr 1 (.c (.isl ex 1 (choV xs))) (.c (.int kk m))) g l k T σ = W P Γ f n Q (.ops l :: k) (putT T g.d (.iptr [.isl (xs.getD m.toNat []).isEmpty 1 (ints (xs.getD m.toNat []))])) σ := stepW_iaddr_map (F := fun c : List Int => .isl c.isEmpty 1 (ints c)) h0 h1
theorem stepK_iaddr_cho {K : V → St → Prop} {ex : Bool} {xs : List (List Int)} {kk : IntKind} {m : Int} (h0 : 0 ≤ m) (h1 : m < xs.length) : stepK (.iaddr 1 (.c (.isl ex 1 (choV xs))) (.c (.int kk m))) σ K = K (.iptr [.isl (xs.getD m.toNat []).isEmpty 1 (ints (xs.getD m.toNat []))]) σ := stepK_iaddr_map (F := fun c : List Int => .isl c.isEmpty 1 (ints c)) h0 h1
end
attribute [go_sem] stepW_iaddr_cho stepK_iaddr_cho choV_len
theorem flatMap_len {α β : Type} {f : α → List β} {m : Nat} (hf : ∀ x, (f x).length = m) : ∀ xs : List α, (xs.flatMap f).length = xs.length * m := by
  intro xs
  induction xs with
  | nil => simp
  | cons x r ih => rw [List.flatMap_cons, List.length_append, hf, ih, List.length_cons]; rw [Nat.add_mul]; omega
def choS (n : Net) (env : List Int) (down : List Bool) (m : Nat) : List (List Int) := (List.range m).foldl (growP n env down) [[]]
theorem choS_succ (n : Net) (env : List Int) (down : List Bool) (m : Nat) : choS n env down (m + 1) = growP n env down (choS n env down m) m := by simp [choS, List.range_succ]
theorem opt_len {n : Net} {env : List Int} {down : List Bool} (hn : NetR n) {i : Int} : (optP n i env down).length ≤ 6 := by
  have r4 := hn.r4
  have h1 : (optL n i env).length ≤ 2 := by unfold optL; rw [List.length_append]; split <;> split <;> simp
  have h2 : (nearP n i down).length ≤ 4 := by
    simp only [nearP, List.length_map]
    have := List.length_filter_le (nearB n i down) (List.range n.routers.length)
    rw [List.length_range] at this; omega
  unfold optP
  rw [List.length_append]
  split
  · simp; omega
  · omega
theorem choS_len {n : Net} {env : List Int} {down : List Bool} (hn : NetR n) : ∀ m, (choS n env down m).length ≤ 6 ^ m := by
  intro m
  induction m with
  | zero => simp [choS]
  | succ m ih =>
    rw [choS_succ]
    unfold growP
    rw [flatMap_len (m := (optP n m env down).length) (fun c => by simp)]
    have := opt_len (n := n) (env := env) (down := down) hn (i := m)
    calc _ ≤ 6 ^ m * 6 := Nat.mul_le_mul ih this
      _ = 6 ^ (m + 1) := by rw [Nat.pow_succ]
theorem choS_mem {n : Net} {env : List Int} {down : List Bool} : ∀ (m : Nat), ∀ vs ∈ choS n env down m, vs.length = m := by
  intro m
  induction m with
  | zero => intro vs h; simp [choS] at h; subst h; rfl
  | succ m ih =>
    intro vs h
    rw [choS_succ] at h
    simp only [growP, List.mem_flatMap, List.mem_map] at h
    obtain ⟨c, hc, v, hv, rfl⟩ := h
    rw [List.length_append, ih c hc]; rfl
theorem choS_bound {n : Net} {env : List Int} {down : List Bool} (hn : NetR n) {m : Nat} (hm : m ≤ 4) : (choS n env down m).length ≤ 1296 := by
  have h1 := choS_len (env := env) (down := down) hn m
  have h2 : 6 ^ m ≤ 6 ^ 4 := Nat.pow_le_pow_right (by decide) hm
  omega
set_option maxHeartbeats 1000000 in
theorem l07Choices_ok {n : Net} {ex ex2 : Bool} {env : List Int} {down : List Bool} (hn : NetR n) (ho : n.origins.length ≤ 1000000000000) (he : env.length = n.externals.length) (hd : down.length = n.links.length) :
    Ret Tryz.prog Γ 119 [netV n, .isl ex 1 (ints env), .isl ex2 1 (bools down)] σ (.isl false 1 (choV (choiceP n env down))) σ := by
  have r1 := hn.r1
  have r4 := hn.r4
  have hlen : (netC n).take 6 = netC n := rfl
  have hlen2 : (netC n).length = 6 := rfl
  have e0 : (netC n)[0]? = some (.isl false 1 (strsV n.routers)) := rfl
  refine ret_of c119_ok rfl ?_
  simp (disch := omega) only [c119, netV, go_sem]
  refine SRun.boxR (net_one n) ?_
  intro b3 hb3
  have g3 := upd_same σ b3 (netC n)
  have hσ : ∀ d x, σ d = some x → upd σ b3 (netC n) d = some x := le_upd hb3
  simp (disch := omega) only [go_sem]
  generalize upd σ b3 (netC n) = s1 at *
  refine W_loopC (α := Nat × Bool) (fun p => p.1 ≤ n.routers.length ∧ (p.2 = true → p.1 = 0)) (fun p => [(1, .isl ex 1 (ints env)), (2, .isl ex2 1 (bools down)), (3, .ptr b3 0), (7, .isl p.2 1 (choV (choS n env down p.1))), (8, .int .i64 (p.1 : Nat))]) (fun _ => s1) (fun p => n.routers.length - p.1) (0, true) ⟨by simp, fun _ => rfl⟩ (by simp (disch := omega) only [subT, Int.natCast_add, Int.cast_ofNat_Int, go_sem] <;> (repeat' apply And.intro) <;> first | rfl | (congr 1; omega) | assumption) rfl ?_
  rintro ⟨i, xf⟩ ⟨hi, hxf⟩ ih
  dsimp only at hi hxf
  have hcb := choS_bound (env := env) (down := down) hn (m := i) (by omega)
  simp (disch := omega) only [g3, e0, go_sem]
  first | refine iteW_dec (fun h1 => ?_) (fun h1 => ?_) | refine iteW_of (fun h1 => ?_) (fun h1 => ?_)
  · have hob := opt_len (n := n) (env := env) (down := down) hn (i := (i : Nat))
    have hsucc := choS_succ n env down i
    have hg : growP n env down (choS n env down i) i = (choS n env down i).flatMap fun c => (optP n i env down).map fun v => c ++ [v] := rfl
    rw [hg] at hsucc
    simp (disch := omega) only [g3, hlen, hlen2, go_sem]
    refine SRun.callR (l07Options_ok (ex := ex) (ex2 := ex2) (router := (i : Nat)) hn ho he hd) ⟨[], rfl, rfl⟩ rfl ?_
    have hcm := fun c hc => choS_mem (n := n) (env := env) (down := down) i c hc
    generalize optP n i env down = op at *
    generalize choS n env down i = cs at *
    simp (disch := omega) only [go_sem]
    have hTA : ∀ (a : Nat) (q : V), True := fun _ _ => trivial
    clear hTA
    refine W_loopC (α := Nat × V × St) (fun p => p.1 ≤ cs.length ∧ OwnL s1 1 (choV ((cs.take p.1).flatMap fun c => op.map fun v => c ++ [v])) p.2.1 p.2.2) (fun p => [(1, .isl ex 1 (ints env)), (2, .isl ex2 1 (bools down)), (3, .ptr b3 0), (7, .isl xf 1 (choV cs)), (8, .int .i64 (i : Nat)), (9, .isl false 1 (ints op)), (10, p.2.1), (11, .int .i64 (p.1 : Nat))]) (fun p => p.2.2) (fun p => cs.length - p.1) (0, _, _) ⟨by simp, OwnL.nil _ 1⟩ (by simp (disch := omega) only [subT, Int.natCast_add, Int.cast_ofNat_Int, go_sem] <;> (repeat' apply And.intro) <;> first | rfl | (congr 1; omega) | assumption) rfl ?_
    rintro ⟨a, q, s⟩ ⟨ha, ho1⟩ ihA
    dsimp only at ha ho1
    simp (disch := omega) only [go_sem]
    first | refine iteW_dec (fun h2 => ?_) (fun h2 => ?_) | refine iteW_of (fun h2 => ?_) (fun h2 => ?_)
    · have htk := take_succ (xs := cs) (i := a) [] (by omega)
      have hpre : ((cs.take a).flatMap fun c => op.map fun v => c ++ [v]).length ≤ 1296 * 6 := by
        rw [flatMap_len (m := op.length) (fun c => by simp)]
        exact Nat.mul_le_mul (by rw [List.length_take]; omega) hob
      have hnx : (cs.take (a + 1)).flatMap (fun c => op.map fun v => c ++ [v]) = (cs.take a).flatMap (fun c => op.map fun v => c ++ [v]) ++ op.map fun v => cs.getD a [] ++ [v] := by
        rw [htk, List.flatMap_append, List.flatMap_cons, List.flatMap_nil, List.append_nil]
      generalize (cs.take a).flatMap (fun c => op.map fun v => c ++ [v]) = pre at *
      have hcl : (cs.getD a []).length ≤ 1000000 := by have := hcm _ (getD_mem [] (by omega : a < cs.length)); omega
      simp (disch := omega) only [go_sem]
      refine W_loopC (α := Nat × V × St) (fun p => p.1 ≤ op.length ∧ OwnL s1 1 (choV (pre ++ (op.take p.1).map fun v => cs.getD a [] ++ [v])) p.2.1 p.2.2) (fun p => [(1, .isl ex 1 (ints env)), (2, .isl ex2 1 (bools down)), (3, .ptr b3 0), (7, .isl xf 1 (choV cs)), (8, .int .i64 (i : Nat)), (9, .isl false 1 (ints op)), (10, p.2.1), (11, .int .i64 (a : Nat)), (12, .int .i64 (p.1 : Nat))]) (fun p => p.2.2) (fun p => op.length - p.1) (0, q, s) ⟨by simp, by simpa using ho1⟩ (by simp (disch := omega) only [subT, Int.natCast_add, Int.cast_ofNat_Int, go_sem] <;> (repeat' apply And.intro) <;> first | rfl | (congr 1; omega) | assumption) rfl ?_
      clear ho1
      rintro ⟨b, q, s⟩ ⟨hb, ho1⟩ ihB
      dsimp only at hb ho1
      simp (disch := omega) only [go_sem]
      first | refine iteW_dec (fun h3 => ?_) (fun h3 => ?_) | refine iteW_of (fun h3 => ?_) (fun h3 => ?_)
      · have htk2 := take_succ (xs := op) (i := b) 0 (by omega)
        have hsz : (pre ++ (op.take b).map fun v => cs.getD a [] ++ [v]).length ≤ 1296 * 6 + 6 := by
          rw [List.length_append, List.length_map, List.length_take]; omega
        have hsnoc : choV (pre ++ (op.take b).map fun v => cs.getD a [] ++ [v]) ++ [.isl false 1 (ints (cs.getD a [] ++ [op.getD b 0]))] = choV (pre ++ (op.take (b + 1)).map fun v => cs.getD a [] ++ [v]) := by
          rw [choV_app, htk2, List.map_append, List.append_assoc]; rfl
        generalize pre ++ (op.take b).map (fun v => cs.getD a [] ++ [v]) = pb at *
        simp (disch := omega) only [go_sem]
        rw [W_draw]
        refine DRun.start (DRun.mixN rfl ?_)
        simp (disch := omega) only [go_sem]
        generalize cs.getD a [] = c at *
        generalize hgv : op.getD b 0 = v at *
        refine DS.wrQ (WrF.appL (OwnL.nil (σ0 := emp) 1 1) rfl (ints_ok c) (by simp only [ints_len, List.length_nil]; omega)) rfl ?_
        intro r1 s1' hr1 _
        have hr1' := OwnL.of_app (OwnL.nil (σ0 := emp) 1 1) (ints_ok c) hr1
        rw [List.nil_append] at hr1'
        simp (disch := omega) only [go_sem]
        refine DS.wrQ (WrF.appL hr1' rfl (ints1_ok v) (by simp only [ints_len, List.length_singleton]; omega)) rfl ?_
        intro r2 s2' hr2 hdj
        have hr2' := OwnL.of_app hr1' (ints1_ok v) hr2
        rw [ints_app] at hr2'
        obtain ⟨b2, cap, rfl, gb2, hcap, _, rfl⟩ := hr2'.at (by simp [ints])
        have hb2 := disj_new hdj
        simp (disch := omega) only [go_sem]
        rw [cup_new]
        have hsb : s1 b2 = none := by
          cases e : s1 b2 with
          | none => rfl
          | some x => rw [ho1.get e] at hb2; cases hb2
        refine DRun.appL (ho1.ext hb2) rfl (fun y hy => by rw [List.mem_singleton.1 hy]; simp [V.cells, V.one]) (by rw [choV_len]; simp only [List.length_singleton]; omega) ?_
        intro q3 s3 ho3
        rw [show c.length + 1 = (ints (c ++ [v])).length by simp [ints]] at ho3
        obtain ⟨s4, hin, ho4⟩ := ownL_settle hsb (ints_ok _) ho3
        rw [hsnoc] at ho4
        simp (disch := omega) only [go_sem]
        refine W_freezeIn (σ' := s4) (T' := [(1, .isl ex 1 (ints env)), (2, .isl ex2 1 (bools down)), (3, .ptr b3 0), (7, .isl xf 1 (choV cs)), (8, .int .i64 (i : Nat)), (9, .isl false 1 (ints op)), (10, q3), (11, .int .i64 (a : Nat)), (12, .int .i64 ((b : Int) + 1))]) hin (frzT_of_sub (by simp (disch := omega) only [subT, Int.natCast_add, Int.cast_ofNat_Int, go_sem] <;> (repeat' apply And.intro) <;> first | rfl | (congr 1; omega) | assumption)) ?_
        exact ihB (b + 1, q3, s4) _ _ ⟨by simp only; omega, ho4⟩ (by simp only; omega) (by simp (disch := omega) only [subT, Int.natCast_add, Int.cast_ofNat_Int, go_sem] <;> (repeat' apply And.intro) <;> first | rfl | (congr 1; omega) | assumption) rfl
      · have hbl : b = op.length := by omega
        subst hbl
        rw [List.take_length, ← hnx] at ho1
        simp (disch := omega) only [go_sem]
        exact ihA (a + 1, q, s) _ _ ⟨by simp only; omega, ho1⟩ (by simp only; omega) (by simp (disch := omega) only [subT, Int.natCast_add, Int.cast_ofNat_Int, go_sem] <;> (repeat' apply And.intro) <;> first | rfl | (congr 1; omega) | assumption) rfl
    · have hal : a = cs.length := by omega
      subst hal
      rw [List.take_length, ← hsucc] at ho1
      simp (disch := omega) only [go_sem]
      refine W_freezeL (σ' := s1) (T' := [(1, .isl ex 1 (ints env)), (2, .isl ex2 1 (bools down)), (3, .ptr b3 0), (7, .isl false 1 (choV (choS n env down (i + 1)))), (8, .int .i64 ((i : Int) + 1))]) ho1.le (by exact ⟨.refl _, .refl _, .refl _, ho1.conv.2, .refl _, trivial⟩) ?_
      exact ih (i + 1, false) _ _ ⟨by simp only; omega, fun h => by cases h⟩ (by simp only; omega) (by simp (disch := omega) only [subT, Int.natCast_add, Int.cast_ofNat_Int, go_sem] <;> (repeat' apply And.intro) <;> first | rfl | (congr 1; omega) | assumption) rfl
  · have hil : i = n.routers.length := by omega
    subst hil
    have hxf2 : xf = false := by
      cases xf with
      | false => rfl
      | true => have := hxf rfl; omega
    subst hxf2
    simp (disch := omega) only [go_sem]
    exact W_retC c119_ok rfl (Conv.drop _ hσ) ⟨rfl, rfl⟩
end
section
attribute [local irreducible] SRun DS DRun
variable {Γ : St} {σ σ0 : St}
/-- States, as a list of lists of routes. -/
def staV (ss : List (List Rt)) : List V := ss.map fun rs => .isl false 4 (rtsV rs)
theorem staV_len (ss : List (List Rt)) : (staV ss).length = ss.length := by simp [staV]
theorem staV_app (ss : List (List Rt)) (rs : List Rt) : staV ss ++ [.isl false 4 (rtsV rs)] = staV (ss ++ [rs]) := by simp [staV]
section
variable {P : Program} {f : FuncId} {n : Nat} {Q : V → St → Prop} {k : List It} {T : Ts} {g : GI} {l : List GI}
theorem stepW_iaddr_sta {ex : Bool} {xs : List (List Rt)} {kk : IntKind} {m : Int} (h0 : 0 ≤ m) (h1 : m < xs.length) : stepW P Γ f n Q (.iaddr 1 (.c (.isl ex 1 (staV xs))) (.c (.int kk m))) g l k T σ = W P Γ f n Q (.ops l :: k) (putT T g.d (.iptr [.isl false 4 (rtsV (xs.getD m.toNat []))])) σ := stepW_iaddr_map (F := fun rs : List Rt => .isl false 4 (rtsV rs)) h0 h1
theorem stepK_iaddr_sta {K : V → St → Prop} {ex : Bool} {xs : List (List Rt)} {kk : IntKind} {m : Int} (h0 : 0 ≤ m) (h1 : m < xs.length) : stepK (.iaddr 1 (.c (.isl ex 1 (staV xs))) (.c (.int kk m))) σ K = K (.iptr [.isl false 4 (rtsV (xs.getD m.toNat []))]) σ := stepK_iaddr_map (F := fun rs : List Rt => .isl false 4 (rtsV rs)) h0 h1
end
attribute [go_sem] stepW_iaddr_sta stepK_iaddr_sta staV_len
theorem sta1_ok (rs : List Rt) : ∀ y ∈ [V.isl false 4 (rtsV rs)], y.cells.length = 1 ∧ ∀ c ∈ y.cells, c.one = true := by
  intro y hy; rw [List.mem_singleton.1 hy]; simp [V.cells, V.one]
theorem opt_in {n : Net} {env : List Int} {down : List Bool} {i v : Int} (hn : NetR n) (h : v ∈ optP n i env down) : v < n.routers.length := by
  have r1 := hn.r1
  unfold optP at h
  rw [List.mem_append] at h
  rcases h with h | h
  · split at h
    · rw [List.mem_singleton.1 h]; omega
    · unfold optL at h
      rw [List.mem_append] at h
      rcases h with h | h
      · split at h
        · rw [List.mem_singleton.1 h]; omega
        · cases h
      · split at h
        · rw [List.mem_singleton.1 h]; omega
        · cases h
  · exact (near_mem h).2.1
theorem cho_in {n : Net} {env : List Int} {down : List Bool} (hn : NetR n) : ∀ (m : Nat), ∀ vs ∈ choS n env down m, ∀ v ∈ vs, v < n.routers.length := by
  intro m
  induction m with
  | zero => intro vs h v hv; simp [choS] at h; subst h; cases hv
  | succ m ih =>
    intro vs h v hv
    rw [choS_succ] at h
    simp only [growP, List.mem_flatMap, List.mem_map] at h
    obtain ⟨c, hc, w, hw, rfl⟩ := h
    rcases List.mem_append.1 hv with hv | hv
    · exact ih c hc v hv
    · rw [List.mem_singleton.1 hv]; exact opt_in hn hw
set_option maxHeartbeats 1000000 in
theorem l07States_ok {n : Net} {ex ex2 : Bool} {env : List Int} {down : List Bool} (hn : NetR n) (ho : n.origins.length ≤ 1000000000000) (he : env.length = n.externals.length) (hd : down.length = n.links.length) :
    Ret Tryz.prog Γ 92 [netV n, .isl ex 1 (ints env), .isl ex2 1 (bools down)] σ (.isl false 1 (staV (statesP n env down))) σ := by
  have r4 := hn.r4
  have hlen : (netC n).take 6 = netC n := rfl
  have hlen2 : (netC n).length = 6 := rfl
  refine ret_of c92_ok rfl ?_
  simp (disch := omega) only [c92, netV, go_sem]
  refine SRun.boxR (net_one n) ?_
  intro b3 hb3
  have g3 := upd_same σ b3 (netC n)
  have hσ : ∀ d x, σ d = some x → upd σ b3 (netC n) d = some x := le_upd hb3
  simp (disch := omega) only [go_sem]
  generalize upd σ b3 (netC n) = s1 at *
  simp (disch := omega) only [g3, hlen, hlen2, go_sem]
  refine SRun.callR (l07Choices_ok (ex := ex) (ex2 := ex2) hn ho he hd) ⟨[], rfl, rfl⟩ rfl ?_
  have hcb := choS_bound (env := env) (down := down) hn (m := n.routers.length) (by omega)
  have hcm := choS_mem (n := n) (env := env) (down := down) n.routers.length
  have hci := cho_in (n := n) (env := env) (down := down) hn n.routers.length
  have hcS : choS n env down n.routers.length = choiceP n env down := rfl
  rw [hcS] at hcb hcm hci
  have hst : statesP n env down = (choiceP n env down).filterMap (stateO n env down) := rfl
  rw [hst]
  clear hcS hst
  generalize choiceP n env down = cs at *
  simp (disch := omega) only [go_sem]
  refine W_loopC (α := Nat × V × St) (fun p => p.1 ≤ cs.length ∧ OwnL s1 1 (staV ((cs.take p.1).filterMap (stateO n env down))) p.2.1 p.2.2) (fun p => [(1, .isl ex 1 (ints env)), (2, .isl ex2 1 (bools down)), (3, .ptr b3 0), (7, p.2.1), (8, .isl false 1 (choV cs)), (9, .int .i64 (p.1 : Nat))]) (fun p => p.2.2) (fun p => cs.length - p.1) (0, _, _) ⟨by simp, OwnL.nil _ 1⟩ (by simp (disch := omega) only [subT, Int.natCast_add, Int.cast_ofNat_Int, go_sem] <;> (repeat' apply And.intro) <;> first | rfl | (congr 1; omega) | assumption) rfl ?_
  rintro ⟨i, q, s⟩ ⟨hi, ho1⟩ ih
  dsimp only at hi ho1
  have g3' := ho1.get g3
  simp (disch := omega) only [go_sem]
  first | refine iteW_dec (fun h1 => ?_) (fun h1 => ?_) | refine iteW_of (fun h1 => ?_) (fun h1 => ?_)
  · have htk := take_succ (xs := cs) (i := i) [] (by omega)
    have hm := getD_mem (xs := cs) [] (by omega : i < cs.length)
    have hl1 := hcm _ hm
    have hi1 := hci _ hm
    have hsz : ((cs.take i).filterMap (stateO n env down)).length ≤ 1296 := by
      have := List.length_filterMap_le (stateO n env down) (cs.take i)
      rw [List.length_take] at this; omega
    have hfm : (cs.take (i + 1)).filterMap (stateO n env down) = (cs.take i).filterMap (stateO n env down) ++ [cs.getD i []].filterMap (stateO n env down) := by rw [htk, List.filterMap_append]
    simp (disch := omega) only [go_sem]
    refine W_drawW ?_
    simp (disch := omega) only [g3', hlen, hlen2, go_sem]
    generalize hgc : cs.getD i [] = c at *
    refine DRun.callQ (l07Of_ok (ex := ex) (ex2 := ex2) (ex3 := c.isEmpty) hn ho he hd (vias := c) hl1 (by rw [hl1]; exact hi1)) ⟨[], rfl, rfl⟩ ?_
    rintro r s ⟨hs, rs', rfl, hrs⟩
    obtain rfl := hs.symm
    have hso : stateO n env down c = (ofP n env down c).bind fun rs => if stableB n env down rs then some rs else none := rfl
    cases hof : ofP n env down c with
    | none =>
      rw [hof] at hso
      have hno : [c].filterMap (stateO n env down) = [] := by rw [List.filterMap_cons, hso]; rfl
      rw [hno, List.append_nil] at hfm
      simp (disch := omega) only [Option.isSome_none, go_sem]
      exact ih (i + 1, q, s) _ _ ⟨by simp only; omega, by simp only; rw [hfm]; exact ho1⟩ (by simp only; omega) (by simp (disch := omega) only [subT, Int.natCast_add, Int.cast_ofNat_Int, go_sem] <;> (repeat' apply And.intro) <;> first | rfl | (congr 1; omega) | assumption) rfl
    | some rs =>
      rw [hof] at hso
      obtain rfl := hrs rs hof
      obtain ⟨f1, f2, f3⟩ := ofP_fine hn hof
      have hrw : RtsW rs' := by
        have r1 := hn.r1
        have hdf : ∀ v : Int, ¬ v.toNat < rs'.length → rtAt rs' v = default := fun v hv => by simp [rtAt, List.getD, List.getElem?_eq_none (by omega : rs'.length ≤ v.toNat)]
        constructor
        · intro v
          by_cases hv : v.toNat < rs'.length
          · have := (f2 _ hv).via.2
            unfold rtAt; omega
          · rw [hdf v hv]; show (0 : Int) < _; omega
        · intro v
          by_cases hv : v.toNat < rs'.length
          · have := (f2 _ hv).len
            unfold rtAt; omega
          · rw [hdf v hv]; show (0 : Int) ≤ 0 ∧ (0 : Int) ≤ _; omega
      simp (disch := omega) only [g3', hlen, hlen2, Option.isSome_some, go_sem]
      refine SRun.callR (l07Stable_ok (ex := ex) (ex2 := ex2) (ex3 := false) hn ho he hd (f1.trans hl1) hrw) ⟨[], rfl, rfl⟩ rfl ?_
      cases hsb : stableB n env down rs' with
      | false =>
        have hno : [c].filterMap (stateO n env down) = [] := by rw [List.filterMap_cons, hso]; simp [hsb]
        rw [hno, List.append_nil] at hfm
        simp (disch := omega) only [go_sem]
        exact ih (i + 1, q, s) _ _ ⟨by simp only; omega, by simp only; rw [hfm]; exact ho1⟩ (by simp only; omega) (by simp (disch := omega) only [subT, Int.natCast_add, Int.cast_ofNat_Int, go_sem] <;> (repeat' apply And.intro) <;> first | rfl | (congr 1; omega) | assumption) rfl
      | true =>
        have hno : [c].filterMap (stateO n env down) = [rs'] := by rw [List.filterMap_cons, hso]; simp [hsb]
        rw [hno] at hfm
        simp (disch := omega) only [go_sem]
        refine SRun.appL ho1 rfl (sta1_ok rs') (by rw [staV_len]; simp only [List.length_singleton]; omega) ?_
        intro q2 s2 ho2
        rw [staV_app, ← hfm] at ho2
        simp (disch := omega) only [go_sem]
        exact ih (i + 1, q2, s2) _ _ ⟨by simp only; omega, ho2⟩ (by simp only; omega) (by simp (disch := omega) only [subT, Int.natCast_add, Int.cast_ofNat_Int, go_sem] <;> (repeat' apply And.intro) <;> first | rfl | (congr 1; omega) | assumption) rfl
  · have hil : i = cs.length := by omega
    subst hil
    rw [List.take_length] at ho1
    simp (disch := omega) only [go_sem]
    refine W_retC c92_ok rfl ⟨fun d x h => ho1.le _ _ (hσ _ _ h), ho1.frz (fun _ _ => rfl) fun d h => ?_⟩ ⟨rfl, rfl⟩
    cases e : σ d with
    | none => rfl
    | some x => rw [hσ _ _ e] at h; cases h
theorem resV_cellT {T : Ts} {a n m b : Nat} {cs : List V} {v : V} (h1 : look T a = .ptr b 0) (h2 : σ b = some cs) (h3 : cs.length = n) (h4 : look T m = v) : resV [.cell a true n, .t m] T σ = some (.tup [.agg cs, v]) := by
  have ht : cs.take n = cs := List.take_of_length_le (by omega)
  simp [resV, resV1, h1, h2, h3, h4, ht]
def hasB (xs : List Int) (x : Int) : Bool := decide (hasI xs x ≥ 0)
end
section
attribute [local irreducible] SRun DS DRun
variable {Γ : St} {σ σ0 : St}
/-- A list that was written down, or one that was made. -/
def PathO (σ0 : St) (es : Nat) (xs : List V) (q : V) (σ : St) : Prop := (q = .isl true es xs ∧ σ = σ0 ∧ ∀ x ∈ xs, x.cells.length = es ∧ ∀ c ∈ x.cells, c.one = true) ∨ OwnL σ0 es xs q σ
section
variable {es : Nat} {xs ys : List V} {q : V}
theorem PathO.get (h : PathO σ0 es xs q σ) {b : Nat} {c : List V} (hb : σ0 b = some c) : σ b = some c := by
  rcases h with ⟨_, rfl, _⟩ | h
  · exact hb
  · exact h.get hb
theorem PathO.upd (h : PathO σ0 es xs q σ) {b : Nat} {c c' : List V} (hb : σ0 b = some c) : PathO (upd σ0 b c') es xs q (upd σ b c') := by
  rcases h with ⟨h1, rfl, h3⟩ | h
  · exact .inl ⟨h1, rfl, h3⟩
  · exact .inr (h.upd hb)
theorem PathO.one (h : PathO σ0 es xs q σ) : q.one = true := by
  rcases h with ⟨rfl, _, _⟩ | h
  · rfl
  · exact h.one
theorem PathO.cells (h : PathO σ0 es xs q σ) : q.cells = [q] := by
  rcases h with ⟨rfl, _, _⟩ | h
  · rfl
  · exact h.cells
theorem PathO.less {σ1 s : St} (h : PathO σ1 es xs q s) (hle : ∀ b c, σ b = some c → σ1 b = some c) : ∃ s2, (∀ b c, s2 b = some c → s b = some c) ∧ PathO σ es xs q s2 := by
  rcases h with ⟨h1, rfl, h3⟩ | h
  · exact ⟨σ, hle, .inl ⟨h1, rfl, h3⟩⟩
  · obtain ⟨s2, h1, h2⟩ := ownL_less h hle
    exact ⟨s2, h1, .inr h2⟩
theorem PathO.le (h : PathO σ0 es xs q σ) : ∀ b c, σ0 b = some c → σ b = some c := fun b c hb => h.get hb
theorem PathO.frz (h : PathO σ0 es xs q σ) : Frz σ σ0 q (.isl false es xs) := by
  rcases h with ⟨rfl, rfl, h3⟩ | h
  · exact .isl _ _ _
  · exact h.conv.2
theorem PathO.len {P : Program} {f : FuncId} {n : Nat} {Q : V → St → Prop} {k : List It} {T : Ts} {g : GI} {l : List GI} (h : PathO σ0 es xs q σ) : stepW P Γ f n Q (.len (.c q)) g l k T σ = W P Γ f n Q (.ops l :: k) (putT T g.d (.int .i64 xs.length)) σ := by
  rcases h with ⟨rfl, _, _⟩ | h
  · rw [stepW_len_isl]
  · exact stepW_len_own h
theorem SRun.appP {P : Program} {f : FuncId} {n : Nat} {Q : V → St → Prop} {k : List It} {T : Ts} {l : List GI} {d : Option Nat} {by_ : Nat} {s x : Opd} {ex : Bool} (h : PathO σ0 es xs (ev Γ T s) σ) (hx : ev Γ T x = .isl ex es ys) (hne : ys ≠ []) (hy : ∀ y ∈ ys, y.cells.length = es ∧ ∀ c ∈ y.cells, c.one = true) (hfit : (xs.length + ys.length) * by_ ≤ 140737488355328)
    (hk : ∀ r σ', OwnL σ0 es (xs ++ ys) r σ' → W P Γ f n Q (.ops l :: k) (putT T d r) σ') : SRun P Γ f n (.ops (⟨d, none, .app es by_ s x⟩ :: l) :: k) T σ Q := by
  rcases h with ⟨he, rfl, h3⟩ | h
  · have hfl : (flat ys).length = ys.length * es := flat_length fun x hm => (hy x hm).1
    have hfx : (flat xs).length = xs.length * es := flat_length fun x hm => (h3 x hm).1
    refine SRun.appR (old := flat xs) (sLen := xs.length) (by rw [he]; exact Base.isl xs es (.inr rfl)) (by rw [hx]; exact src_isl) (by simpa using hfit) (fun b2 cap2 hb2 hc2 => ?_) (fun h0 => absurd (List.eq_nil_of_length_eq_zero h0) hne)
    rw [he] at hb2 ⊢
    refine hk _ _ ⟨.inr ⟨b2, cap2, hb2, by rw [List.length_append], by rw [flat_append]; rfl, by rw [flat_append, List.length_append, List.length_append, hfl, hfx, Nat.add_mul], by rw [List.length_append]; exact hc2⟩, fun x hm => ?_⟩
    rcases List.mem_append.1 hm with hm | hm
    · exact h3 x hm
    · exact hy x hm
  · exact SRun.appL h hx hy hfit hk
end
def walkV (w : Int × List Int) : V := .agg [.int .i64 w.1, .isl false 1 (ints w.2)]
set_option maxHeartbeats 1000000 in
theorem l08Walk_own {n : Net} {ex : Bool} {rs : List Rt} {from_ port : Int} (hf : n.filters.length ≤ 1000000000000) (hl : rs.length ≤ 1000000) (hv : ViasIn rs) (hi : ∀ v : Int, -3 ≤ (rtAt rs v).via) (h0 : 0 ≤ from_ ∧ from_ < rs.length) :
    ACalls Tryz.prog Γ 123 [netV n, .isl ex 4 (rtsV rs), .int .i64 from_, .int .i64 port] σ fun r s => ∃ q, r = .agg [.int .i64 (walkP n rs from_ port).1, q] ∧ PathO σ 1 (ints (walkP n rs from_ port).2) q s := by
  have hlen : (netC n).take 6 = netC n := rfl
  have hlen2 : (netC n).length = 6 := rfl
  refine acalls_W c123_ok rfl ?_
  simp (disch := omega) only [c123, netV, go_sem]
  refine SRun.boxR (net_one n) ?_
  intro b4 hb4
  simp (disch := omega) only [go_sem]
  refine SRun.allocR ?_
  intro b8 hb8
  have n8 := upd_none.1 hb8
  simp (disch := omega) only [go_sem]
  refine SRun.allocR ?_
  intro b9 hb9
  have n9 := upd_none.1 hb9
  have n9' := upd_none.1 n9.2
  simp (disch := omega) only [go_sem]
  have n48 : b4 ≠ b8 := n8.1.symm
  have n49 : b4 ≠ b9 := n9'.1.symm
  have n89 : b8 ≠ b9 := n9.1.symm
  have n98 : b9 ≠ b8 := n9.1
  have g4 : ∀ y z, upd (upd (upd σ b4 (netC n)) b8 y) b9 z b4 = some (netC n) := fun y z => by rw [upd_ne _ _ n49, upd_ne _ _ n48, upd_same]
  have g8 : ∀ y z, upd (upd (upd σ b4 (netC n)) b8 y) b9 z b8 = some y := fun y z => by rw [upd_ne _ _ n89, upd_same]
  have hσ : ∀ y z d x, σ d = some x → upd (upd (upd σ b4 (netC n)) b8 y) b9 z d = some x := fun y z d x h => by
    have e4 : d ≠ b4 := fun e => by subst e; rw [hb4] at h; cases h
    have e8 : d ≠ b8 := fun e => by subst e; rw [n8.2] at h; cases h
    have e9 : d ≠ b9 := fun e => by subst e; rw [n9'.2] at h; cases h
    rw [upd_ne _ _ e9, upd_ne _ _ e8, upd_ne _ _ e4]; exact h
  have hwp : walkP n rs from_ port = walkGo n rs port rs.length from_ [from_] := rfl
  refine W_loopC (α := Nat × Int × List Int × V × St) (fun p => p.1 ≤ rs.length ∧ (0 ≤ p.2.1 ∧ p.2.1 < rs.length) ∧ p.2.2.1.length ≤ p.1 + 1 ∧ walkP n rs from_ port = walkGo n rs port (rs.length - p.1) p.2.1 p.2.2.1 ∧ PathO (upd (upd (upd σ b4 (netC n)) b8 [.int .i64 0, .isl true 0 []]) b9 [.int .i64 0, p.2.2.2.1]) 1 (ints p.2.2.1) p.2.2.2.1 p.2.2.2.2) (fun p => [(1, .isl ex 4 (rtsV rs)), (3, .int .i64 port), (4, .ptr b4 0), (8, .ptr b8 0), (9, .ptr b9 0), (10, .int .i64 p.2.1), (11, .int .i64 (p.1 : Nat))]) (fun p => p.2.2.2.2) (fun p => rs.length - p.1) (0, from_, [from_], .isl true 1 [.int .i64 from_], _) ⟨by simp, h0, by simp, hwp, .inl ⟨rfl, rfl, ints1_ok from_⟩⟩ (by simp (disch := omega) only [subT, Int.natCast_add, Int.cast_ofNat_Int, go_sem] <;> (repeat' apply And.intro) <;> first | rfl | (congr 1; omega) | assumption) rfl ?_
  rintro ⟨i, at_, path, q, s⟩ ⟨hi1, hat, hpl, he, ho⟩ ih
  dsimp only at hi1 hat hpl he ho
  have g9' := ho.get (upd_same _ b9 _)
  have g8' := ho.get (g8 _ _)
  have g4' := ho.get (g4 _ _)
  have hq1 := ho.one
  have hqc := ho.cells
  have fin : ∀ (o : Int) (s2 : St), s2 = upd (upd s b9 [.int .i64 o, q]) b8 [.int .i64 o, q] → ∃ s3, (∀ d x, s3 d = some x → s2 d = some x) ∧ PathO σ 1 (ints path) q s3 := by
    rintro o _ rfl
    have h1 := ho.upd (c' := [.int .i64 o, q]) (upd_same _ b9 _)
    have h2 := h1.upd (b := b8) (c' := [.int .i64 o, q]) (by rw [upd_upd]; exact g8 _ _)
    refine h2.less fun d x h => ?_
    have e8 : d ≠ b8 := fun e => by subst e; rw [n8.2] at h; cases h
    rw [upd_ne _ _ e8, upd_upd]; exact hσ _ _ _ _ h
  simp (disch := omega) only [go_sem]
  first | refine iteW_dec (fun h1 => ?_) (fun h1 => ?_) | refine iteW_of (fun h1 => ?_) (fun h1 => ?_)
  · obtain ⟨m, hm⟩ : ∃ m, rs.length - i = m + 1 := ⟨rs.length - i - 1, by omega⟩
    rw [hm, walkGo] at he
    have hrt : rs.getD at_.toNat default = rtAt rs at_ := rfl
    have hrt0 : ∀ r : Rt, (rtC r)[0]? = some (.int .i64 r.via) := fun _ => rfl
    have hvi := hv at_
    have hii := hi at_
    simp (disch := omega) only [hrt, hrt0, go_sem]
    generalize (rtAt rs at_).via = v at *
    first | refine iteW_dec (fun h2 => ?_) (fun h2 => ?_) | refine iteW_of (fun h2 => ?_) (fun h2 => ?_)
    · rw [if_pos h2] at he
      rw [he]
      simp (disch := omega) only [g9', g8', n89, n98, hq1, hqc, go_sem]
      obtain ⟨s3, f1, f2⟩ := fin 1 _ rfl
      exact W_retC c123_ok (r := .agg [.int .i64 1, q]) (resV_cellA rfl (upd_same _ _ _) rfl) (Conv.drop _ f1) ⟨q, rfl, f2⟩
    rw [if_neg h2] at he
    simp (disch := omega) only [go_sem]
    first | refine iteW_dec (fun h3 => ?_) (fun h3 => ?_) | refine iteW_of (fun h3 => ?_) (fun h3 => ?_)
    · rw [if_pos h3] at he
      rw [he]
      simp (disch := omega) only [g9', g8', n89, n98, hq1, hqc, go_sem]
      obtain ⟨s3, f1, f2⟩ := fin 2 _ rfl
      exact W_retC c123_ok (r := .agg [.int .i64 2, q]) (resV_cellA rfl (upd_same _ _ _) rfl) (Conv.drop _ f1) ⟨q, rfl, f2⟩
    rw [if_neg h3] at he
    simp (disch := omega) only [go_sem]
    first | refine iteW_dec (fun h4 => ?_) (fun h4 => ?_) | refine iteW_of (fun h4 => ?_) (fun h4 => ?_)
    · rw [if_pos h4] at he
      rw [he]
      simp (disch := omega) only [g9', g8', n89, n98, hq1, hqc, go_sem]
      obtain ⟨s3, f1, f2⟩ := fin 3 _ rfl
      exact W_retC c123_ok (r := .agg [.int .i64 3, q]) (resV_cellA rfl (upd_same _ _ _) rfl) (Conv.drop _ f1) ⟨q, rfl, f2⟩
    rw [if_neg h4] at he
    simp (disch := omega) only [g4', hlen, hlen2, go_sem]
    refine SRun.callR (l08Filtered_ok (n := n) (at_ := at_) (to := v) (p := port) hf) ⟨[], rfl, rfl⟩ rfl ?_
    cases h5 : n.filters.any (filtB at_ v port) with
    | true =>
      rw [h5, if_pos rfl] at he
      rw [he]
      simp (disch := omega) only [g9', g8', n89, n98, hq1, hqc, go_sem]
      obtain ⟨s3, f1, f2⟩ := fin 4 _ rfl
      exact W_retC c123_ok (r := .agg [.int .i64 4, q]) (resV_cellA rfl (upd_same _ _ _) rfl) (Conv.drop _ f1) ⟨q, rfl, f2⟩
    | false =>
      rw [h5, if_neg (by simp)] at he
      simp (disch := omega) only [g9', go_sem]
      refine SRun.appP ho rfl (by simp) (ints1_ok v) (by simp only [ints_len, List.length_singleton]; omega) ?_
      intro q2 s2 ho2
      rw [ints_app] at ho2
      have ho3 := ho2.upd (c' := [.int .i64 0, q2]) (upd_same _ b9 _)
      rw [upd_upd] at ho3
      simp (disch := omega) only [ho2.get (upd_same _ b9 _), ho2.one, ho2.cells, go_sem]
      exact ih (i + 1, v, path ++ [v], q2, upd s2 b9 [.int .i64 0, q2]) _ _ ⟨by simp only; omega, ⟨by simp only; omega, by simp only; omega⟩, by simp only [List.length_append, List.length_singleton]; omega, by simp only; rw [he]; congr 1; omega, .inr ho3⟩ (by simp only; omega) (by simp (disch := omega) only [subT, Int.natCast_add, Int.cast_ofNat_Int, go_sem] <;> (repeat' apply And.intro) <;> first | rfl | (congr 1; omega) | assumption) rfl
  · have hil : rs.length - i = 0 := by omega
    rw [hil, walkGo] at he
    rw [he]
    simp (disch := omega) only [g9', g8', n89, n98, hq1, hqc, go_sem]
    obtain ⟨s3, f1, f2⟩ := fin 3 _ rfl
    exact W_retC c123_ok (r := .agg [.int .i64 3, q]) (resV_cellA rfl (upd_same _ _ _) rfl) (Conv.drop _ f1) ⟨q, rfl, f2⟩
end
section
attribute [local irreducible] SRun DS DRun
variable {Γ : St} {σ σ0 : St}
def propC (k f p w : Int) : List V := [.int .i64 k, .int .i64 f, .int .i64 p, .int .i64 w]
def propB (n : Net) (k f p w : Int) : Bool := netB n && inB k 1 4 && routerB n.routers.length f && inB p (-1) 15 && (if k = 3 then routerB n.routers.length w else decide (w = 0))
theorem prop_one (k f p w : Int) : ∀ c ∈ (V.agg (propC k f p w)).cells, c.one = true := by simp [propC, V.cells, V.one]
/-- Whether a way satisfies a property. -/
def satP (kd way : Int) (w : Int × List Int) : Bool :=
  if kd = 1 then decide (w.1 = 1) || decide (w.1 = 2) else if kd = 2 then !(decide (w.1 = 1) || decide (w.1 = 2))
  else if kd = 3 then !(decide (w.1 = 1) || decide (w.1 = 2)) || hasB w.2 way else decide (w.1 = 1)
end
section
attribute [local irreducible] SRun DS DRun
variable {Γ : St} {σ σ0 : St}
section
variable {P : Program} {f : FuncId} {n : Nat} {Q : V → St → Prop} {k : List It} {T : Ts}
/-- One block is written, the rest is read, and new blocks may come. -/
theorem DRun.mixR1 {b : Nat} {c : List V} {t : DT} {segs : List DT} (hb : σ b = some c) (R : Ts → St → Prop) (hr : rdOK t = true) (h : DSW P Γ (del σ b) t T (upd emp b c) R) (hk : ∀ T s, R T s → WD P Γ f n Q k segs T (cup s (del σ b))) : DRun P Γ f n Q (t :: segs) k T σ := by
  with_unfolding_all exact ⟨upd emp b c, del σ b, (fun m => by
    by_cases e : m = b
    · subst e; exact .inr (del_same _ _)
    · exact .inl (by rw [upd_ne _ _ e]; rfl)), (by
    funext m
    by_cases e : m = b
    · subst e; simp [cup, upd, hb]
    · simp [cup, upd, emp, del, e]), DS.mono (fun T s hR => (hk T s hR).sound) (DS.of hr h)⟩
theorem cup_del2 {b b2 : Nat} {c z : List V} (hne : b2 ≠ b) : cup (upd (upd emp b c) b2 z) (del σ b) = upd (upd σ b c) b2 z := by
  funext m
  by_cases e2 : m = b2
  · subst e2; simp [cup, upd]
  · by_cases e : m = b
    · subst e; simp [cup, upd, e2]
    · simp [cup, upd, emp, del, e, e2]
end
theorem l06Insert_ok {ex : Bool} {xs : List Int} {x : Int} (hl : xs.length ≤ 1000000000) : Ret Tryz.prog Γ 86 [.isl ex 1 (ints xs), .int .i64 x] σ (.tup [.isl false 1 (ints (insP xs x)), .bool (insO xs x)]) σ := by
  have hkl := insK_le xs x
  refine ret_of c86_ok rfl ?_
  simp (disch := omega) only [c86, go_sem]
  refine W_loopC (α := Nat) (fun i => i ≤ insK xs x) (fun i => [(0, .isl ex 1 (ints xs)), (1, .int .i64 x), (6, .int .i64 (i : Nat))]) (fun _ => σ) (fun i => insK xs x - i) 0 (by omega) (by simp (disch := omega) only [subT, Int.natCast_add, Int.cast_ofNat_Int, go_sem] <;> (repeat' apply And.intro) <;> first | rfl | (congr 1; omega) | assumption) rfl ?_
  intro i hi ih
  simp (disch := omega) only [go_sem]
  have step : ∀ (b : Bool), True := fun _ => trivial
  clear step
  by_cases h1 : i < insK xs x
  · have hb := insK_before h1
    have d1 : decide ((i : Int) < xs.length) = true := decide_eq_true (by omega)
    simp (disch := omega) only [d1, go_sem]
    have d2 : decide (xs.getD i 0 < x) = true := decide_eq_true hb
    simp (disch := omega) only [d2, go_sem]
    exact ih (i + 1) _ _ (by omega) (by omega) (by simp (disch := omega) only [subT, Int.natCast_add, Int.cast_ofNat_Int, go_sem] <;> (repeat' apply And.intro) <;> first | rfl | (congr 1; omega) | assumption) rfl
  · have hik : i = insK xs x := by omega
    subst hik
    clear ih
    have hst := insK_stop (xs := xs) (n := x)
    have ho : insO xs x = !(decide (insK xs x < xs.length) && decide (xs.getD (insK xs x) 0 = x)) := rfl
    have hp : insP xs x = if insO xs x then xs.take (insK xs x) ++ [x] ++ xs.drop (insK xs x) else xs := rfl
    generalize insK xs x = i at *
    by_cases c1 : i < xs.length ∧ xs.getD i 0 = x
    · have d1 : decide ((i : Int) < xs.length) = true := decide_eq_true (by omega)
      have d2 : decide (xs.getD i 0 < x) = false := decide_eq_false (by omega)
      have d3 : decide (xs.getD i 0 = x) = true := decide_eq_true c1.2
      rw [decide_eq_true c1.1, d3] at ho
      rw [ho] at hp
      have hp2 : insP xs x = xs := hp
      rw [hp2, ho]
      simp (disch := omega) only [d1, d2, d3, go_sem]
      exact W_retC c86_ok (r := .tup [.isl ex 1 (ints xs), .bool false]) rfl ⟨fun _ _ h => h, frz_tup (by exact ⟨.isl _ _ _, .refl _, trivial⟩)⟩ ⟨rfl, rfl⟩
    · have ho2 : insO xs x = true := by
        rw [ho]
        by_cases c2 : i < xs.length
        · rw [decide_eq_false (fun h => c1 ⟨c2, h⟩)]; simp
        · rw [decide_eq_false c2]; rfl
      rw [ho2, if_pos rfl] at hp
      rw [hp, ho2]
      by_cases c2 : i < xs.length
      case' pos =>
        have d1 : decide ((i : Int) < xs.length) = true := decide_eq_true (by omega)
        have d2 : decide (xs.getD i 0 < x) = false := decide_eq_false (by have := hst c2; omega)
        have d3 : decide (xs.getD i 0 = x) = false := decide_eq_false (fun h => c1 ⟨c2, h⟩)
        simp (disch := omega) only [d1, d2, d3, go_sem]
      case' neg =>
        have d1 : decide ((i : Int) < xs.length) = false := decide_eq_false (by omega)
        simp (disch := omega) only [d1, go_sem]
      all_goals
        rw [W_draw]
        have t1 : List.take ((i : Int) - 0).toNat (ints xs) = ints (xs.take i) := by rw [show ((i : Int) - 0).toNat = i by omega]; simp [ints, List.map_take]
        have t2 : List.take ((xs.length : Int) - i).toNat (List.drop i (ints xs)) = ints (xs.drop i) := by rw [List.take_of_length_le (by rw [List.length_drop, ints_len]; omega)]; simp [ints, List.map_drop]
        refine DRun.start (DRun.mixN rfl ?_)
        simp (disch := omega) only [go_sem]
        refine DS.wrQ (WrF.appL (OwnL.nil (σ0 := emp) 1 1) (congrArg (V.isl _ 1) t1) (ints_ok (xs.take i)) (by simp only [ints_len, List.length_nil, List.length_take]; omega)) rfl ?_
        intro r1 s1' hr1 _
        have hr1' := OwnL.of_app (OwnL.nil (σ0 := emp) 1 1) (ints_ok (xs.take i)) hr1
        rw [List.nil_append] at hr1'
        simp (disch := omega) only [go_sem]
        refine DS.wrQ (WrF.appL hr1' rfl (ints1_ok x) (by simp only [ints_len, List.length_take, List.length_singleton]; omega)) rfl ?_
        intro r2 s2' hr2 hdj
        have hr2' := OwnL.of_app hr1' (ints1_ok x) hr2
        rw [ints_app] at hr2'
        have hr3 := ownL_join hr2' hdj
        simp (disch := omega) only [go_sem]
        refine DRun.appL hr3 (congrArg (V.isl _ 1) t2) (ints_ok (xs.drop i)) (by simp only [ints_len, List.length_append, List.length_take, List.length_singleton, List.length_drop]; omega) ?_
        intro r3 s3 hr4
        have he : ints (xs.take i ++ [x]) ++ ints (xs.drop i) = ints (xs.take i ++ [x] ++ xs.drop i) := by simp [ints]
        rw [he] at hr4
        simp (disch := omega) only [go_sem]
        exact W_retC c86_ok (r := .tup [r3, .bool true]) (r' := .tup [.isl false 1 (ints (xs.take i ++ [x] ++ xs.drop i)), .bool true]) rfl ⟨hr4.le, frz_tup (by exact ⟨hr4.conv.2, .refl _, trivial⟩)⟩ ⟨rfl, rfl⟩
end
section
attribute [local irreducible] SRun DS DRun
variable {Γ : St} {σ σ0 : St}
def names4 (k : Nat) : List (List UInt8) := [[97], [98], [99], [100]].take k
theorem names4_len {k : Nat} (h : k ≤ 4) : (names4 k).length = k := by simp [names4]; omega
theorem names4_ok {k : Nat} (h : k ≤ 4) : (List.range (names4 k).length).all (nameAt (names4 k)) = true := by
  rw [names4_len h]
  match k, h with
  | 0, _ => rfl
  | 1, _ => rfl
  | 2, _ => rfl
  | 3, _ => rfl
  | 4, _ => rfl
theorem link1_ok (l : Link) : ∀ y ∈ [V.agg (linkC l)], y.cells.length = 3 ∧ ∀ c ∈ y.cells, c.one = true := by
  intro y hy; rw [List.mem_singleton.1 hy]; simp [V.cells, linkC, V.one]
theorem links_app (ls : List Link) (l : Link) : linksV ls ++ [.agg (linkC l)] = linksV (ls ++ [l]) := by simp [linksV]
theorem imp1_ok (x : Imp) : ∀ y ∈ [V.agg (impC x)], y.cells.length = 5 ∧ ∀ c ∈ y.cells, c.one = true := by
  intro y hy; rw [List.mem_singleton.1 hy]; simp [V.cells, impC, V.one]
theorem imps_app (ls : List Imp) (l : Imp) : impsV ls ++ [.agg (impC l)] = impsV (ls ++ [l]) := by simp [impsV]
theorem filn1_ok (x : Fil) : ∀ y ∈ [V.agg (filC x)], y.cells.length = 4 ∧ ∀ c ∈ y.cells, c.one = true := by
  intro y hy; rw [List.mem_singleton.1 hy]; simp [V.cells, filC, V.one]
theorem filsn_app (fs : List Fil) (x : Fil) : filsV fs ++ [.agg (filC x)] = filsV (fs ++ [x]) := by simp [filsV]
def Z6 : List V := [.isl true 0 [], .isl true 0 [], .isl true 0 [], .isl true 0 [], .isl true 0 [], .isl true 0 []]
theorem le_boxes {M : St} {b3 b10 b11 : Nat} {F F' y z : List V} (h10 : M b10 = none) (h11 : M b11 = none) (h3 : M b3 = some F) : ∀ d x, upd M b3 F' d = some x → upd (upd (upd M b10 y) b11 z) b3 F' d = some x := by
  intro d x h
  by_cases e : d = b3
  · subst e; rw [upd_same] at h ⊢; exact h
  · rw [upd_ne _ _ e] at h ⊢
    have e10 : d ≠ b10 := fun e => by subst e; rw [h10] at h; cases h
    have e11 : d ≠ b11 := fun e => by subst e; rw [h11] at h; cases h
    rw [upd_ne _ _ e11, upd_ne _ _ e10]; exact h
set_option maxHeartbeats 4000000 in
theorem net_ok {b : Nat} {ex : Bool} {code : List UInt8} {s : Int} (hb : σ b = some (srcC ex code 0 s)) (hs : 0 ≤ s ∧ s < 2147483648) :
    ACalls Tryz.prog Γ 44 [.ptr b 0] σ fun r σ' => ∃ n a' s', netB n = true ∧ NetLen n ∧ n.origins.length ≤ 4 ∧ 0 ≤ a' ∧ a' ≤ 1000 ∧ 0 ≤ s' ∧ s' < 2147483648 ∧ r = netV n ∧ σ' = upd σ b (srcC ex code a' s') := by
  refine acalls_W c44_ok rfl ?_
  simp (disch := omega) only [c44, go_sem]
  refine SRun.allocR ?_
  intro b2 hb2
  have e2 : b2 ≠ b := fun e => by subst e; rw [hb] at hb2; cases hb2
  have e2' : b ≠ b2 := e2.symm
  have hbz : ∀ z, upd σ b2 z b = some (srcC ex code 0 s) := fun z => by rw [upd_ne _ _ e2']; exact hb
  simp (disch := omega) only [go_sem]
  refine SRun.callQ (next_ok (hbz _) (by omega) hs) ⟨[], rfl, rfl⟩ rfl ?_
  rintro r σ1 ⟨v, a1, s1, j1, j2, j3, j4, j5, j6, j7, rfl, rfl⟩
  have hv := j3 (by omega)
  obtain ⟨v, rfl⟩ : ∃ v' : Nat, v = v' := ⟨v.toNat, by omega⟩
  have hR : List.take (1 + (v : Int) - 0).toNat [V.str [97], .str [98], .str [99], .str [100]] = strsV (names4 (v + 1)) := by
    rw [show (1 + (v : Int) - 0).toNat = v + 1 by omega]; simp [names4, strsV, List.map_take]
  have hkl : (names4 (v + 1)).length = v + 1 := names4_len (by omega)
  simp (disch := omega) only [hR, go_sem]
  generalize hRV : V.isl (decide (1 + (v : Int) = 4)) 1 (strsV (names4 (v + 1))) = R
  have hR1 : R.one = true := by subst hRV; rfl
  have hRc : R.cells = [R] := by subst hRV; rfl
  have hRlen : ∀ {P : Program} {f : FuncId} {n : Nat} {Q : V → St → Prop} {k : List It} {T : Ts} {g : GI} {l : List GI} {σ : St}, stepW P Γ f n Q (.len (.c R)) g l k T σ = W P Γ f n Q (.ops l :: k) (putT T g.d (.int .i64 ((v : Int) + 1))) σ := by
    intros; subst hRV; rw [stepW_len_isl, strsV_len, hkl]; rfl
  refine SRun.allocR ?_
  intro b3 hb3
  have n3 := upd_none.1 hb3
  have n3' := upd_none.1 n3.2
  have e3 : b3 ≠ b := n3.1
  have e3' : b ≠ b3 := e3.symm
  have e32 : b3 ≠ b2 := n3'.1
  have e23 : b2 ≠ b3 := e32.symm
  have hZ : [V.isl true 0 [], .isl true 0 [], .isl true 0 [], .isl true 0 [], .isl true 0 [], .isl true 0 []] = Z6 := rfl
  simp (disch := omega) only [hR1, hRc, go_sem]
  rw [hZ]
  generalize hs0 : upd σ b2 Z6 = s0
  have hσ0 : ∀ d x, σ d = some x → s0 d = some x := by subst hs0; exact le_upd hb2
  have g2 : s0 b2 = some Z6 := by subst hs0; exact upd_same _ _ _
  have h03 : s0 b3 = none := by subst hs0; exact n3.2
  simp (disch := omega) only [hRlen, go_sem]
  have Mb : ∀ a s F, upd (upd s0 b (srcC ex code a s)) b3 F b = some (srcC ex code a s) := fun a s F => by rw [upd_ne _ _ e3', upd_same]
  have M3 : ∀ a s F, upd (upd s0 b (srcC ex code a s)) b3 F b3 = some F := fun a s F => upd_same _ _ _
  have M2 : ∀ a s F, upd (upd s0 b (srcC ex code a s)) b3 F b2 = some Z6 := fun a s F => by rw [upd_ne _ _ e23, upd_ne _ _ e2]; exact g2
  have Mu : ∀ a s a' s' F, upd (upd (upd s0 b (srcC ex code a s)) b3 F) b (srcC ex code a' s') = upd (upd s0 b (srcC ex code a' s')) b3 F := fun a s a' s' F => by rw [upd_comm _ e3, upd_upd]
  refine W_loopC (α := Nat × List Link × Int × Int × V × St) (fun p => p.1 ≤ 7 ∧ p.2.1.length ≤ 6 ∧ lksB ((v : Int) + 1) p.2.1 = true ∧ (0 ≤ p.2.2.1 ∧ p.2.2.1 ≤ 3 + 9 * p.1) ∧ (0 ≤ p.2.2.2.1 ∧ p.2.2.2.1 < 2147483648) ∧ OwnL (upd (upd s0 b (srcC ex code p.2.2.1 p.2.2.2.1)) b3 [R, p.2.2.2.2.1, .isl true 0 [], .isl true 0 [], .isl true 0 [], .isl true 0 []]) 3 (linksV p.2.1) p.2.2.2.2.1 p.2.2.2.2.2)
    (fun p => [(0, .ptr b 0), (2, .ptr b2 0), (3, .ptr b3 0), (4, .int .i64 ((v : Int) + 1)), (5, .int .i64 (p.1 : Nat))]) (fun p => p.2.2.2.2.2) (fun p => 7 - p.1) (0, [], a1, s1, .isl true 0 [], _) ⟨by simp, by simp, rfl, by simp only; omega, ⟨j6, j7⟩, OwnL.nil _ _⟩ (by simp (disch := omega) only [subT, Int.natCast_add, Int.cast_ofNat_Int, go_sem] <;> (repeat' apply And.intro) <;> first | rfl | (congr 1; omega) | assumption) rfl ?_
  clear hb hbz j1 j2 j3 j4 j5 j6 j7 hs
  rintro ⟨i, ls, a, s, q, σ1⟩ ⟨hi, hll, hlk, ha, hs, ho⟩ ih
  dsimp only at hi hll hlk ha hs ho
  have gb := ho.get (Mb _ _ _)
  have g3 := ho.get (M3 _ _ _)
  have gq1 := ho.one
  by_cases c1 : i < 7 ∧ v ≥ 1
  · have d1 : decide ((i : Int) < 7) = true := decide_eq_true (by omega)
    have d2 : decide ((v : Int) + 1 > 1) = true := decide_eq_true (by omega)
    simp (disch := omega) only [d1, d2, go_sem]
    refine SRun.callQ (next_ok gb (by omega) hs) ⟨[], rfl, rfl⟩ rfl ?_
    rintro r σ2 ⟨x, a2, s2, x1, _, x3, x4, x5, x6, x7, rfl, rfl⟩
    have hx := x3 (by omega)
    simp (disch := omega) only [go_sem]
    refine SRun.callQ (next_ok (upd_same _ _ _) (by omega) ⟨x6, x7⟩) ⟨[], rfl, rfl⟩ rfl ?_
    rintro r σ2 ⟨y, a3, s3, y1, _, y3, y4, y5, y6, y7, rfl, rfl⟩
    have hy := y3 (by omega)
    rw [upd_upd]
    have ho2 := ho.upd (c' := srcC ex code a3 s3) (Mb _ _ _)
    rw [Mu] at ho2
    have gb2 := ho2.get (Mb _ _ _)
    have g32 := ho2.get (M3 _ _ _)
    have hg32 : upd σ1 b (srcC ex code a3 s3) b3 = some [R, q, .isl true 0 [], .isl true 0 [], .isl true 0 [], .isl true 0 []] := g32
    generalize upd σ1 b (srcC ex code a3 s3) = σ2 at *
    have hno : ∀ T', subT [(0, V.ptr b 0), (2, V.ptr b2 0), (3, V.ptr b3 0), (4, V.int .i64 ((v : Int) + 1)), (5, V.int .i64 ((i : Int) + 1))] T' → _ := fun T' hT' => ih (i + 1, ls, a3, s3, q, σ2) T' _ ⟨by simp only; omega, hll, hlk, by simp only; omega, ⟨y6, y7⟩, ho2⟩ (by simp only; omega) hT' rfl
    simp (disch := omega) only [go_sem]
    by_cases c2 : x = y
    · have d3 : (decide ¬ x = y) = false := by simp [c2]
      simp (disch := omega) only [d3, go_sem]
      exact hno _ (by simp (disch := omega) only [subT, Int.natCast_add, Int.cast_ofNat_Int, go_sem] <;> (repeat' apply And.intro) <;> first | rfl | (congr 1; omega) | assumption)
    have d3 : (decide ¬ x = y) = true := by simp [c2]
    simp (disch := omega) only [d3, hg32, go_sem]
    refine SRun.callR (Ret.lendL (l06Link_ok (σ := emp) (ex := false) (ls := ls) (x := x) (y := y) (by omega)) (by exact ⟨ho2.frz (fun _ _ => rfl) (fun _ _ => rfl), .refl _, .refl _, trivial⟩) (Plain.int _ _)) ⟨[], rfl, rfl⟩ rfl ?_
    by_cases c3 : linkP ls x y < 0
    case' neg =>
      have d4 : decide (linkP ls x y < 0) = false := decide_eq_false c3
      simp (disch := omega) only [d4, go_sem]
      exact hno _ (by simp (disch := omega) only [subT, Int.natCast_add, Int.cast_ofNat_Int, go_sem] <;> (repeat' apply And.intro) <;> first | rfl | (congr 1; omega) | assumption)
    have d4 : decide (linkP ls x y < 0) = true := decide_eq_true c3
    simp (disch := omega) only [d4, hg32, stepW_len_own ho2, linksV_len, go_sem]
    by_cases c4 : ls.length < 6
    case' neg =>
      have d5 : decide ((ls.length : Int) < 6) = false := decide_eq_false (by omega)
      simp (disch := omega) only [d5, go_sem]
      exact hno _ (by simp (disch := omega) only [subT, Int.natCast_add, Int.cast_ofNat_Int, go_sem] <;> (repeat' apply And.intro) <;> first | rfl | (congr 1; omega) | assumption)
    have d5 : decide ((ls.length : Int) < 6) = true := decide_eq_true (by omega)
    clear hno
    simp (disch := omega) only [d5, go_sem]
    rw [W_draw]
    have g3d : del σ2 b b3 = some [R, q, .isl true 0 [], .isl true 0 [], .isl true 0 [], .isl true 0 []] := by rw [del_ne _ e3]; exact hg32
    refine DRun.start (DRun.mix1 gb2 rfl ?_)
    simp (disch := omega) only [g3d, go_sem]
    refine DS.callQ (next_ok (upd_same emp b (srcC ex code a3 s3)) (by omega) ⟨y6, y7⟩) ⟨[], rfl, rfl⟩ rfl ?_
    rintro r sx ⟨w, a4, s4, w1, _, w3, w4, w5, w6, w7, rfl, rfl⟩ _
    have hw := w3 (by omega)
    rw [upd_upd]
    simp (disch := omega) only [go_sem]
    refine ⟨_, rfl, ?_⟩
    have ho3 := ho2.upd (c' := srcC ex code a4 s4) (Mb _ _ _)
    rw [Mu] at ho3
    refine DRun.appL ho3 rfl (link1_ok ⟨x, y, 1 + w⟩) (by rw [linksV_len]; simp only [List.length_singleton]; omega) ?_
    intro q' σ6 ho4
    have hap : linksV ls ++ [V.agg [.int .i64 x, .int .i64 y, .int .i64 (1 + w)]] = linksV (ls ++ [⟨x, y, 1 + w⟩]) := links_app ls ⟨x, y, 1 + w⟩
    rw [hap] at ho4
    have g34 := ho4.get (M3 _ _ _)
    simp (disch := omega) only [g34, ho4.one, ho4.cells, go_sem]
    have ho5 := ho4.upd (c' := [R, q', .isl true 0 [], .isl true 0 [], .isl true 0 [], .isl true 0 []]) (M3 _ _ _)
    rw [upd_upd] at ho5
    exact ih (i + 1, ls ++ [⟨x, y, 1 + w⟩], a4, s4, q', upd σ6 b3 [R, q', .isl true 0 [], .isl true 0 [], .isl true 0 [], .isl true 0 []]) _ _ ⟨by simp only; omega, by simp only [List.length_append, List.length_singleton]; omega, lksB_snoc hlk (by simp [routerB]; omega) (by simp [routerB]; omega) c2 (by simp [inB]; omega) c3, by simp only; omega, ⟨w6, w7⟩, ho5⟩ (by simp only; omega) (by simp (disch := omega) only [subT, Int.natCast_add, Int.cast_ofNat_Int, go_sem] <;> (repeat' apply And.intro) <;> first | rfl | (congr 1; omega) | assumption) rfl
  · clear ih
    have hin := ownL_frzIn (cs' := [R, .isl false 3 (linksV ls), .isl true 1 (ints []), .isl true 1 (ints []), .isl true 5 [], .isl true 4 []]) ho (by simp only [List.mem_cons, List.not_mem_nil, or_false, forall_eq_or_imp, forall_eq]; exact ⟨hR1, rfl, rfl, rfl, rfl, rfl⟩) (fun hf => by exact ⟨.refl _, hf, .isl0 _ _ _ _ (fun _ => rfl), .isl0 _ _ _ _ (fun _ => rfl), .isl0 _ _ _ _ (fun _ => rfl), .isl0 _ _ _ _ (fun _ => rfl), trivial⟩)
    by_cases c5 : i < 7
    case' pos =>
      have d1 : decide ((i : Int) < 7) = true := decide_eq_true (by omega)
      have d2 : decide ((v : Int) + 1 > 1) = false := decide_eq_false (by omega)
      simp (disch := omega) only [d1, d2, go_sem]
      clear d1 d2 c1 c5
    case' neg =>
      have d1 : decide ((i : Int) < 7) = false := decide_eq_false (by omega)
      simp (disch := omega) only [d1, go_sem]
      clear d1 c1 c5
    all_goals
      rw [W_draw]
      refine SRun.freezeIn (T' := [(0, V.ptr b 0), (2, V.ptr b2 0), (3, V.ptr b3 0), (4, V.int .i64 ((v : Int) + 1))]) hin (frzT_of_sub (by simp (disch := omega) only [subT, Int.natCast_add, Int.cast_ofNat_Int, go_sem] <;> (repeat' apply And.intro) <;> first | rfl | (congr 1; omega) | assumption)) ?_
      clear hin ho g3 gb gq1 σ1
      have g3d : ∀ a s F, del (upd (upd s0 b (srcC ex code a s)) b3 F) b b3 = some F := fun a s F => by rw [del_ne _ e3]; exact upd_same _ _ _
      generalize hLV : V.isl false 3 (linksV ls) = LV
      have hL1 : LV.one = true := by subst hLV; rfl
      refine DRun.start (DRun.mix1 (Mb _ _ _) rfl ?_)
      simp (disch := omega) only [g3d, go_sem]
      refine DS.callQ (next_ok (upd_same emp b (srcC ex code a s)) (by omega) hs) ⟨[], rfl, rfl⟩ rfl ?_
      rintro r sx ⟨x, a4, s4, w1, w2, w3, w4, w5, w6, w7, rfl, rfl⟩ _
      have hx : 0 ≤ x ∧ x < v + 1 := ⟨w1, w3 (by omega)⟩
      rw [upd_upd]
      simp (disch := omega) only [go_sem]
      refine ⟨_, rfl, ?_⟩
      rw [Mu]
      refine DRun.callQ (l06Insert_ok (ex := true) (xs := []) (x := x) (by simp)) ⟨[], rfl, rfl⟩ ?_
      rintro r sx ⟨rfl, hsx⟩
      obtain rfl := hsx.symm
      have hio : risingB ((v : Int) + 1) (insP [] x) = true := ins_rising (xs := []) rfl hx
      have hil := ins_len [] x
      generalize insP [] x = os at *
      have hosl : os.length ≤ 1 := by simpa using hil
      simp (disch := omega) only [go_sem]
      refine DRun.mix1 (M3 _ _ _) rfl ?_
      simp (disch := omega) only [go_sem]
      refine DS.wrQ (WrF.store rfl (upd_same emp b3 _) rfl (by simp [ev, look, V.cells, V.one]) (by simp)) rfl ?_
      rintro _ sx ⟨_, rfl⟩ _
      rw [upd_upd]
      simp (disch := omega) only [V.cells, go_sem]
      refine ⟨_, rfl, ?_⟩
      clear g3d
      refine SRun.callQ (next_ok (Mb _ _ _) (by omega) ⟨w6, w7⟩) ⟨[], rfl, rfl⟩ rfl ?_
      rintro r sx ⟨y, a5, s5, y1, y2, y3, y4, y5, y6, y7, rfl, rfl⟩
      have hy := y3 (by omega)
      obtain ⟨y, rfl⟩ : ∃ v' : Nat, y = v' := ⟨y.toNat, by omega⟩
      rw [Mu]
      have ha5 : 0 ≤ a5 ∧ a5 ≤ 80 := by omega
      simp (disch := omega) only [go_sem]
      refine W_loopC (α := Nat × List Int × Bool × Int × Int) (fun p => p.1 ≤ y ∧ p.2.1.length + p.1 ≤ 2 ∧ risingB ((v : Int) + 1) p.2.1 = true ∧ (0 ≤ p.2.2.2.1 ∧ p.2.2.2.1 ≤ 80 + 3 * ((y : Int) - p.1)) ∧ (0 ≤ p.2.2.2.2 ∧ p.2.2.2.2 < 2147483648))
        (fun p => [(0, .ptr b 0), (2, .ptr b2 0), (3, .ptr b3 0), (4, .int .i64 ((v : Int) + 1)), (8, .int .i64 (p.1 : Nat))]) (fun p => upd (upd s0 b (srcC ex code p.2.2.2.1 p.2.2.2.2)) b3 [R, LV, .isl false 1 (ints os), .isl p.2.2.1 1 (ints p.2.1), .isl true 5 [], .isl true 4 []]) (fun p => p.1) (y, [], true, a5, s5) ⟨by simp, by simp only [List.length_nil]; omega, rfl, by simp only; omega, ⟨y6, y7⟩⟩ (by simp (disch := omega) only [subT, Int.natCast_add, Int.cast_ofNat_Int, go_sem] <;> (repeat' apply And.intro) <;> first | rfl | (congr 1; omega) | assumption) rfl ?_
      clear y6 y7 y1 ha5 y2 y3 y4 y5
      rintro ⟨j, xs, fx, a, s⟩ ⟨hj, hxl, hxr, ha, hs⟩ ih
      dsimp only at hj hxl hxr ha hs
      simp (disch := omega) only [go_sem]
      first | refine iteW_dec (fun c6 => ?_) (fun c6 => ?_) | refine iteW_of (fun c6 => ?_) (fun c6 => ?_)
      · simp (disch := omega) only [go_sem]
        rw [W_draw]
        have g3d : ∀ a s F, del (upd (upd s0 b (srcC ex code a s)) b3 F) b b3 = some F := fun a s F => by rw [del_ne _ e3]; exact upd_same _ _ _
        refine DRun.start (DRun.mix1 (Mb _ _ _) rfl ?_)
        simp (disch := omega) only [g3d, go_sem]
        refine DS.callQ (next_ok (upd_same emp b (srcC ex code a s)) (by omega) hs) ⟨[], rfl, rfl⟩ rfl ?_
        rintro r sx ⟨x, a4, s4, w1, w2, w3, w4, w5, w6, w7, rfl, rfl⟩ _
        have hx : 0 ≤ x ∧ x < v + 1 := ⟨w1, w3 (by omega)⟩
        rw [upd_upd]
        simp (disch := omega) only [go_sem]
        refine ⟨_, rfl, ?_⟩
        rw [Mu]
        refine DRun.callQ (l06Insert_ok (ex := fx) (xs := xs) (x := x) (by omega)) ⟨[], rfl, rfl⟩ ?_
        rintro r sx ⟨rfl, hsx⟩
        obtain rfl := hsx.symm
        have hio2 := ins_rising hxr hx
        have hil2 := ins_len xs x
        simp (disch := omega) only [go_sem]
        refine DRun.mix1 (M3 _ _ _) rfl ?_
        simp (disch := omega) only [go_sem]
        refine DS.wrQ (WrF.store rfl (upd_same emp b3 _) rfl (by simp [ev, look, V.cells, V.one]) (by simp)) rfl ?_
        rintro _ sx ⟨_, rfl⟩ _
        rw [upd_upd]
        simp (disch := omega) only [V.cells, go_sem]
        refine ⟨_, rfl, ?_⟩
        obtain ⟨j, rfl⟩ : ∃ j', j = j' + 1 := ⟨j - 1, by omega⟩
        refine ih (j, insP xs x, false, a4, s4) _ _ ⟨by simp only; omega, by simp only; omega, hio2, by simp only; omega, ⟨w6, w7⟩⟩ (by simp only; omega) (by simp (disch := omega) only [subT, Int.natCast_add, Int.cast_ofNat_Int, go_sem] <;> (repeat' apply And.intro) <;> first | rfl | (congr 1; omega) | assumption) rfl
      · clear ih
        have hj0 : j = 0 := by omega
        subst hj0
        subst hLV
        generalize hOV : V.isl false 1 (ints os) = OV
        have hO1 : OV.one = true := by subst hOV; rfl
        generalize hXV : V.isl fx 1 (ints xs) = XV
        have hX1 : XV.one = true := by subst hXV; rfl
        have ha2 : 0 ≤ a ∧ a ≤ 90 := by omega
        simp (disch := omega) only [go_sem]
        refine SRun.callQ (next_ok (Mb _ _ _) (by omega) hs) ⟨[], rfl, rfl⟩ rfl ?_
        rintro r sx ⟨y2, a5, s5, z1, z2, z3, z4, z5, z6, z7, rfl, rfl⟩
        have hy2 := z3 (by omega)
        obtain ⟨y2, rfl⟩ : ∃ v' : Nat, y2 = v' := ⟨y2.toNat, by omega⟩
        rw [Mu]
        have ha5 : 0 ≤ a5 ∧ a5 ≤ 93 := by omega
        simp (disch := omega) only [go_sem]
        refine W_loopC (α := Nat × List Imp × Int × Int × V × St) (fun p => p.1 ≤ y2 ∧ p.2.1.length + p.1 ≤ y2 ∧ (∀ x ∈ p.2.1, impOn ls x = true) ∧ (0 ≤ p.2.2.1 ∧ p.2.2.1 ≤ 93 + 15 * ((y2 : Int) - p.1)) ∧ (0 ≤ p.2.2.2.1 ∧ p.2.2.2.1 < 2147483648) ∧ OwnL (upd (upd s0 b (srcC ex code p.2.2.1 p.2.2.2.1)) b3 [R, .isl false 3 (linksV ls), OV, XV, p.2.2.2.2.1, .isl true 4 []]) 5 (impsV p.2.1) p.2.2.2.2.1 p.2.2.2.2.2)
          (fun p => [(0, .ptr b 0), (2, .ptr b2 0), (3, .ptr b3 0), (4, .int .i64 ((v : Int) + 1)), (9, .int .i64 (p.1 : Nat))]) (fun p => p.2.2.2.2.2) (fun p => p.1) (y2, [], a5, s5, .isl true 5 [], _) ⟨by simp, by simp, by simp, by simp only; omega, ⟨z6, z7⟩, OwnL.nil _ _⟩ (by simp (disch := omega) only [subT, Int.natCast_add, Int.cast_ofNat_Int, go_sem] <;> (repeat' apply And.intro) <;> first | rfl | (congr 1; omega) | assumption) rfl ?_
        clear z1 z2 z3 z4 z5 z6 z7 ha5
        rintro ⟨j, is, a, s, q, σ1⟩ ⟨hj, hil, hall, ha, hs, ho⟩ ih
        dsimp only at hj hil hall ha hs ho
        have gb := ho.get (Mb _ _ _)
        have g3 := ho.get (M3 _ _ _)
        have gq1 := ho.one
        simp (disch := omega) only [go_sem]
        by_cases c7 : j > 0 ∧ ls.length > 0
        · have d1 : decide ((j : Int) > 0) = true := decide_eq_true (by omega)
          have d2 : decide ((ls.length : Int) > 0) = true := decide_eq_true (by omega)
          simp (disch := omega) only [d1, d2, g3, linksV_len, go_sem]
          rw [W_draw]
          have g3d : del σ1 b b3 = some [R, .isl false 3 (linksV ls), OV, XV, q, .isl true 4 []] := by rw [del_ne _ e3]; exact g3
          refine DRun.start (DRun.mixR1 gb (fun T s' => ∃ x a4 s4 b10, 0 ≤ x ∧ x < (ls.length : Int) ∧ a ≤ a4 ∧ a4 ≤ a + 3 ∧ (0 ≤ s4 ∧ s4 < 2147483648) ∧ b10 ≠ b ∧ σ1 b10 = none ∧ s' = upd (upd emp b (srcC ex code a4 s4)) b10 [.int .i64 0, .int .i64 0, .int .i64 0] ∧ look T 0 = .ptr b 0 ∧ look T 2 = .ptr b2 0 ∧ look T 3 = .ptr b3 0 ∧ look T 4 = .int .i64 ((v : Int) + 1) ∧ look T 9 = .int .i64 (j : Nat) ∧ look T 10 = .ptr b10 0 ∧ look T 112 = .agg (linkC (ls.getD x.toNat default))) rfl ?_ ?_)
          · have hlt : ∀ l : Link, (linkC l).take 3 = linkC l := fun _ => rfl
            have hlt2 : ∀ l : Link, (linkC l).length = 3 := fun _ => rfl
            have hfree : ∀ {b10 : Nat} {z y : List V}, disj (upd (upd emp b z) b10 y) (del σ1 b) → (upd emp b z) b10 = none → b10 ≠ b ∧ σ1 b10 = none := fun {b10 z y} hd hn => by
              have e := (upd_none.1 hn).1
              refine ⟨e, ?_⟩
              have := (hd b10).resolve_left (by rw [upd_same]; simp)
              rwa [del_ne _ e] at this
            simp (disch := omega) only [g3d, linksV_len, go_sem]
            refine DS.wr2 (WrF.call (next_ok (upd_same emp b (srcC ex code a s)) (by omega) hs) ⟨[], rfl, rfl⟩) rfl ?_ ?_
            · rintro r sx ⟨x, a4, s4, w1, w2, w3, w4, w5, w6, w7, rfl, rfl⟩ hd
              have hx := w3 (by omega)
              rw [upd_upd]
              simp (disch := omega) only [hlt, hlt2, go_sem]
              refine DS.wrQ WrF.alloc rfl ?_
              rintro _ s9 ⟨b10, hb10, rfl, rfl⟩ hd9
              obtain ⟨f1, f2⟩ := hfree hd9 hb10
              refine ⟨x, a4, s4, b10, w1, hx, w4, w5, ⟨w6, w7⟩, f1, f2, rfl, ?_⟩
              (repeat' apply And.intro) <;> rfl
            · refine DS.wrQ WrF.alloc rfl ?_
              rintro _ s9 ⟨b10, hb10, rfl, rfl⟩ hd9
              obtain ⟨f1, f2⟩ := hfree hd9 hb10
              simp (disch := omega) only [go_sem]
              refine DS.wrQ (WrF.call (next_ok (by rw [upd_ne _ _ f1.symm, upd_same]) (by omega) hs) ⟨[], rfl, rfl⟩) rfl ?_
              rintro r sx ⟨x, a4, s4, w1, w2, w3, w4, w5, w6, w7, rfl, rfl⟩ hd
              have hx := w3 (by omega)
              rw [upd_comm _ f1, upd_upd]
              simp (disch := omega) only [hlt, hlt2, go_sem]
              refine ⟨x, a4, s4, b10, w1, hx, w4, w5, ⟨w6, w7⟩, f1, f2, rfl, ?_⟩
              (repeat' apply And.intro) <;> rfl
          rintro T s' ⟨x, a4, s4, b10, x0, x1, a41, a42, hs4, f1, f2, rfl, k0, k2, k3, k4, k9, k10, k112⟩
          rw [cup_del2 f1]
          have hlm := getD_mem (xs := ls) default (by omega : x.toNat < ls.length)
          generalize ls.getD x.toNat default = lk at *
          have hlc : linkC lk = [.int .i64 lk.a, .int .i64 lk.b, .int .i64 lk.cost] := rfl
          have hM10 : upd (upd s0 b (srcC ex code a s)) b3 [R, .isl false 3 (linksV ls), OV, XV, q, .isl true 4 []] b10 = none := by
            cases e : upd (upd s0 b (srcC ex code a s)) b3 [R, .isl false 3 (linksV ls), OV, XV, q, .isl true 4 []] b10 with
            | none => rfl
            | some c => rw [ho.get e] at f2; cases f2
          have f3 : b3 ≠ b10 := fun e => by subst e; rw [g3] at f2; cases f2
          simp (disch := omega) only [k10, k112, hlc, k0, k2, k3, k4, k9, go_sem]
          rw [W_draw]
          have ho1 := ho.upd (c' := srcC ex code a4 s4) (Mb _ _ _)
          rw [Mu] at ho1
          have hf2 : upd σ1 b (srcC ex code a4 s4) b10 = none := by rw [upd_ne _ _ f1]; exact f2
          have ho2 := ho1.ext (z := linkC lk) hf2
          rw [hlc] at ho2
          generalize hσ2 : upd (upd σ1 b (srcC ex code a4 s4)) b10 [V.int .i64 lk.a, .int .i64 lk.b, .int .i64 lk.cost] = σ2 at *
          have q10 : σ2 b10 = some [V.int .i64 lk.a, .int .i64 lk.b, .int .i64 lk.cost] := by subst hσ2; exact upd_same _ _ _
          have qb : σ2 b = some (srcC ex code a4 s4) := by subst hσ2; rw [upd_ne _ _ f1.symm, upd_same]
          have q3 : σ2 b3 = some [R, .isl false 3 (linksV ls), OV, XV, q, .isl true 4 []] := by subst hσ2; rw [upd_ne _ _ f3, upd_ne _ _ e3]; exact g3
          have q10d : del σ2 b b10 = some [V.int .i64 lk.a, .int .i64 lk.b, .int .i64 lk.cost] := by rw [del_ne _ f1]; exact q10
          refine DRun.start (DRun.mixR1 qb (fun T s' => ∃ w d a5 s5 b11, (0 ≤ w ∧ w < 3) ∧ (0 ≤ d ∧ d < 4) ∧ a4 ≤ a5 ∧ a5 ≤ a4 + 6 ∧ (0 ≤ s5 ∧ s5 < 2147483648) ∧ b11 ≠ b ∧ σ2 b11 = none ∧ s' = upd (upd emp b (srcC ex code a5 s5)) b11 [.int .i64 0, .int .i64 0, .int .i64 0, .int .i64 0, .int .i64 0] ∧ look T 0 = .ptr b 0 ∧ look T 2 = .ptr b2 0 ∧ look T 3 = .ptr b3 0 ∧ look T 4 = .int .i64 ((v : Int) + 1) ∧ look T 9 = .int .i64 (j : Nat) ∧ look T 10 = .ptr b10 0 ∧ look T 11 = .ptr b11 0 ∧ look T 122 = .agg [.int .i64 lk.a, .int .i64 lk.b, .int .i64 w, .int .i64 (1 + d), .int .i64 0]) rfl ?_ ?_)
          · have hfree : ∀ {b11 : Nat} {z y : List V}, disj (upd (upd emp b z) b11 y) (del σ2 b) → (upd emp b z) b11 = none → b11 ≠ b ∧ σ2 b11 = none := fun {b11 z y} hd hn => by
              have e := (upd_none.1 hn).1
              refine ⟨e, ?_⟩
              have := (hd b11).resolve_left (by rw [upd_same]; simp)
              rwa [del_ne _ e] at this
            simp (disch := omega) only [q10d, k0, k2, k3, k4, k9, k10, go_sem]
            refine DS.wr2 (WrF.call (next_ok (upd_same emp b (srcC ex code a4 s4)) (by omega) hs4) ⟨[], rfl, rfl⟩) rfl ?_ ?_
            · rintro r sx ⟨w, a5, s5, w1, w2, w3, w4, w5, w6, w7, rfl, rfl⟩ hd
              have hw := w3 (by omega)
              rw [upd_upd]
              simp (disch := omega) only [go_sem]
              refine DS.wr2 (WrF.call (next_ok (upd_same emp b (srcC ex code a5 s5)) (by omega) ⟨w6, w7⟩) ⟨[], rfl, rfl⟩) rfl ?_ ?_
              · rintro r sx ⟨d, a6, s6, z1, z2, z3, z4, z5, z6, z7, rfl, rfl⟩ hd
                have hz := z3 (by omega)
                rw [upd_upd]
                simp (disch := omega) only [go_sem]
                refine DS.wrQ WrF.alloc rfl ?_
                rintro _ s9 ⟨b11, hb11, rfl, rfl⟩ hd9
                obtain ⟨h1, h2⟩ := hfree hd9 hb11
                refine ⟨w, d, a6, s6, b11, ⟨w1, hw⟩, ⟨z1, hz⟩, by omega, by omega, ⟨z6, z7⟩, h1, h2, rfl, ?_⟩
                (repeat' apply And.intro) <;> first | rfl | assumption
              · refine DS.wrQ WrF.alloc rfl ?_
                rintro _ s9 ⟨b11, hb11, rfl, rfl⟩ hd9
                obtain ⟨h1, h2⟩ := hfree hd9 hb11
                simp (disch := omega) only [go_sem]
                refine DS.wrQ (WrF.call (next_ok (by rw [upd_ne _ _ h1.symm, upd_same]) (by omega) ⟨w6, w7⟩) ⟨[], rfl, rfl⟩) rfl ?_
                rintro r sx ⟨d, a6, s6, z1, z2, z3, z4, z5, z6, z7, rfl, rfl⟩ hd
                have hz := z3 (by omega)
                rw [upd_comm _ h1, upd_upd]
                simp (disch := omega) only [go_sem]
                refine ⟨w, d, a6, s6, b11, ⟨w1, hw⟩, ⟨z1, hz⟩, by omega, by omega, ⟨z6, z7⟩, h1, h2, rfl, ?_⟩
                (repeat' apply And.intro) <;> first | rfl | assumption
            · refine DS.wrQ WrF.alloc rfl ?_
              rintro _ s9 ⟨b11, hb11, rfl, rfl⟩ hd9
              obtain ⟨h1, h2⟩ := hfree hd9 hb11
              simp (disch := omega) only [go_sem]
              refine DS.wrQ (WrF.call (next_ok (by rw [upd_ne _ _ h1.symm, upd_same]) (by omega) hs4) ⟨[], rfl, rfl⟩) rfl ?_
              rintro r sx ⟨w, a5, s5, w1, w2, w3, w4, w5, w6, w7, rfl, rfl⟩ hd
              have hw := w3 (by omega)
              rw [upd_comm _ h1, upd_upd]
              simp (disch := omega) only [go_sem]
              refine DS.wrQ (WrF.call (next_ok (by rw [upd_ne _ _ h1.symm, upd_same]) (by omega) ⟨w6, w7⟩) ⟨[], rfl, rfl⟩) rfl ?_
              rintro r sx ⟨d, a6, s6, z1, z2, z3, z4, z5, z6, z7, rfl, rfl⟩ hd
              have hz := z3 (by omega)
              rw [upd_comm _ h1, upd_upd]
              simp (disch := omega) only [go_sem]
              refine ⟨w, d, a6, s6, b11, ⟨w1, hw⟩, ⟨z1, hz⟩, by omega, by omega, ⟨z6, z7⟩, h1, h2, rfl, ?_⟩
              (repeat' apply And.intro) <;> first | rfl | assumption
          clear k0 k2 k3 k4 k9 k10 k112 T
          rintro T s' ⟨w, d, a5, s5, b11, hw, hd, a51, a52, hs5, h1, h2, rfl, k0, k2, k3, k4, k9, k10, k11, k122⟩
          rw [cup_del2 h1]
          have h3 : b3 ≠ b11 := fun e => by subst e; rw [q3] at h2; cases h2
          have h10 : b10 ≠ b11 := fun e => by subst e; rw [q10] at h2; cases h2
          have hM11 : upd (upd s0 b (srcC ex code a s)) b3 [R, .isl false 3 (linksV ls), OV, XV, q, .isl true 4 []] b11 = none := by
            cases e : upd (upd s0 b (srcC ex code a s)) b3 [R, .isl false 3 (linksV ls), OV, XV, q, .isl true 4 []] b11 with
            | none => rfl
            | some c =>
              have e2 := ho.get e
              have : σ2 b11 = some c := by
                subst hσ2; rw [upd_ne _ _ h10.symm, upd_ne _ _ h1]; exact e2
              rw [this] at h2; cases h2
          simp (disch := omega) only [k11, k122, go_sem]
          obtain ⟨B, hB⟩ : ∃ B : Int → Int → List V → List V → St, B = fun a s y z => upd (upd (upd (upd s0 b (srcC ex code a s)) b3 [R, .isl false 3 (linksV ls), OV, XV, q, .isl true 4 []]) b10 y) b11 z := ⟨_, rfl⟩
          have Bb : ∀ a s y z, B a s y z b = some (srcC ex code a s) := fun a s y z => by rw [hB]; simp only; rw [upd_ne _ _ h1.symm, upd_ne _ _ f1.symm]; exact Mb _ _ _
          have B3 : ∀ a s y z, B a s y z b3 = some [R, .isl false 3 (linksV ls), OV, XV, q, .isl true 4 []] := fun a s y z => by rw [hB]; simp only; rw [upd_ne _ _ h3, upd_ne _ _ f3]; exact M3 _ _ _
          have B10 : ∀ a s y z, B a s y z b10 = some y := fun a s y z => by rw [hB]; simp only; rw [upd_ne _ _ h10, upd_same]
          have B11 : ∀ a s y z, B a s y z b11 = some z := fun a s y z => by rw [hB]; exact upd_same _ _ _
          have Bu : ∀ a s a' s' y z, upd (B a s y z) b (srcC ex code a' s') = B a' s' y z := fun a s a' s' y z => by rw [hB]; simp only; rw [upd_comm _ h1, upd_comm _ f1, Mu]
          have Bu11 : ∀ a s y z z', upd (B a s y z) b11 z' = B a s y z' := fun a s y z z' => by rw [hB]; simp only; rw [upd_upd]
          have ho4 : OwnL (B a5 s5 [.int .i64 lk.a, .int .i64 lk.b, .int .i64 lk.cost] [.int .i64 lk.a, .int .i64 lk.b, .int .i64 w, .int .i64 (1 + d), .int .i64 0]) 5 (impsV is) q (upd (upd σ2 b (srcC ex code a5 s5)) b11 [.int .i64 lk.a, .int .i64 lk.b, .int .i64 w, .int .i64 (1 + d), .int .i64 0]) := by
            have h4 := ho2.upd (c' := srcC ex code a5 s5) (b := b) (by rw [upd_ne _ _ f1.symm]; exact Mb _ _ _)
            rw [upd_comm _ f1, Mu] at h4
            rw [hB]
            exact h4.ext (by rw [upd_ne _ _ h1]; exact h2)
          generalize upd (upd σ2 b (srcC ex code a5 s5)) b11 [V.int .i64 lk.a, .int .i64 lk.b, .int .i64 w, .int .i64 (1 + d), .int .i64 0] = σ3 at *
          simp (disch := omega) only [k0, go_sem]
          refine SRun.callQ (chance_ok (ho4.get (Bb _ _ _ _)) (by omega) hs5 (by decide)) ⟨[], rfl, rfl⟩ rfl ?_
          rintro r sx ⟨cv, a6, s6, u1, u2, u3, u4, rfl, rfl⟩
          have ho5 := ho4.upd (c' := srcC ex code a6 s6) (Bb _ _ _ _)
          rw [Bu] at ho5
          generalize upd σ3 b (srcC ex code a6 s6) = σ4 at *
          simp (disch := omega) only [go_sem]
          refine iteW_join (fun T s' => ∃ f t, ((f = lk.a ∧ t = lk.b) ∨ (f = lk.b ∧ t = lk.a)) ∧ OwnL (B a6 s6 [.int .i64 lk.a, .int .i64 lk.b, .int .i64 lk.cost] [.int .i64 f, .int .i64 t, .int .i64 w, .int .i64 (1 + d), .int .i64 0]) 5 (impsV is) q s' ∧ look T 0 = .ptr b 0 ∧ look T 2 = .ptr b2 0 ∧ look T 3 = .ptr b3 0 ∧ look T 4 = .int .i64 ((v : Int) + 1) ∧ look T 9 = .int .i64 (j : Nat) ∧ look T 11 = .ptr b11 0) (fun k' key => ?_) ?_
          · cases cv with
            | false =>
              simp (disch := omega) only [go_sem]
              exact key _ _ ⟨lk.a, lk.b, .inl ⟨rfl, rfl⟩, ho5, k0, k2, k3, k4, k9, k11⟩
            | true =>
              have ho6 := ho5.upd (c' := [.int .i64 lk.b, .int .i64 lk.b, .int .i64 w, .int .i64 (1 + d), .int .i64 0]) (B11 _ _ _ _)
              rw [Bu11] at ho6
              have ho7 := ho6.upd (c' := [.int .i64 lk.b, .int .i64 lk.a, .int .i64 w, .int .i64 (1 + d), .int .i64 0]) (B11 _ _ _ _)
              rw [Bu11, upd_upd] at ho7
              simp (disch := omega) only [k10, k11, ho5.get (B10 _ _ _ _), ho5.get (B11 _ _ _ _), h10, go_sem]
              exact key _ _ ⟨lk.b, lk.a, .inr ⟨rfl, rfl⟩, ho7, k0, k2, k3, k4, k9, k11⟩
          clear ho5 ho4 k0 k2 k3 k4 k9 k10 k11 k122 T
          rintro T sx ⟨f, t, hft, ho5, k0, k2, k3, k4, k9, k11⟩
          simp (disch := omega) only [k11, ho5.get (B11 _ _ _ _), go_sem]
          refine iteW_join (fun T s' => ∃ N a7 s7, (N = 0 ∨ (d = 1 ∧ 0 ≤ N ∧ N ≤ 1000)) ∧ (a6 ≤ a7 ∧ a7 ≤ a6 + 3) ∧ (0 ≤ s7 ∧ s7 < 2147483648) ∧ OwnL (B a7 s7 [.int .i64 lk.a, .int .i64 lk.b, .int .i64 lk.cost] [.int .i64 f, .int .i64 t, .int .i64 w, .int .i64 (1 + d), .int .i64 N]) 5 (impsV is) q s' ∧ look T 0 = .ptr b 0 ∧ look T 2 = .ptr b2 0 ∧ look T 3 = .ptr b3 0 ∧ look T 4 = .int .i64 ((v : Int) + 1) ∧ look T 9 = .int .i64 (j : Nat) ∧ look T 11 = .ptr b11 0) (fun k' key => ?_) ?_
          · by_cases c8 : 1 + d = 2
            · have d3 : decide (1 + d = 2) = true := decide_eq_true c8
              simp (disch := omega) only [d3, k0, go_sem]
              refine SRun.callQ (next_ok (ho5.get (Bb _ _ _ _)) (by omega) ⟨u3, u4⟩) ⟨[], rfl, rfl⟩ rfl ?_
              rintro r sx ⟨N, a7, s7, z1, z2, z3, z4, z5, z6, z7, rfl, rfl⟩
              have hz := z3 (by omega)
              have ho6 := ho5.upd (c' := srcC ex code a7 s7) (Bb _ _ _ _)
              rw [Bu] at ho6
              have ho7 := ho6.upd (c' := [.int .i64 f, .int .i64 t, .int .i64 w, .int .i64 (1 + d), .int .i64 (50 * N)]) (B11 _ _ _ _)
              rw [Bu11] at ho7
              simp (disch := omega) only [k11, ho6.get (B11 _ _ _ _), go_sem]
              exact key _ _ ⟨50 * N, a7, s7, .inr ⟨by omega, by omega, by omega⟩, by omega, ⟨z6, z7⟩, ho7, k0, k2, k3, k4, k9, k11⟩
            · have d3 : decide (1 + d = 2) = false := decide_eq_false c8
              simp (disch := omega) only [d3, go_sem]
              exact key _ _ ⟨0, a6, s6, .inl rfl, by omega, ⟨u3, u4⟩, ho5, k0, k2, k3, k4, k9, k11⟩
          clear ho5 k0 k2 k3 k4 k9 k11 T
          rintro T sx ⟨N, a7, s7, hN, ha7, hs7, ho5, k0, k2, k3, k4, k9, k11⟩
          simp (disch := omega) only [k3, k11, ho5.get (B3 _ _ _ _), ho5.get (B11 _ _ _ _), go_sem]
          refine SRun.appL ho5 rfl (imp1_ok ⟨f, t, w, 1 + d, N⟩) (by simp only [impsV_len, List.length_singleton]; omega) ?_
          intro q' σ6 ho6
          have hap : impsV is ++ [V.agg [.int .i64 f, .int .i64 t, .int .i64 w, .int .i64 (1 + d), .int .i64 N]] = impsV (is ++ [⟨f, t, w, 1 + d, N⟩]) := imps_app is ⟨f, t, w, 1 + d, N⟩
          rw [hap] at ho6
          simp (disch := omega) only [k3, k9, ho6.get (B3 _ _ _ _), ho6.one, ho6.cells, go_sem]
          have ho7 := ho6.upd (c' := [R, .isl false 3 (linksV ls), OV, XV, q', .isl true 4 []]) (B3 _ _ _ _)
          have hMa : ∀ bx, upd (upd s0 b (srcC ex code a s)) b3 [R, .isl false 3 (linksV ls), OV, XV, q, .isl true 4 []] bx = none → upd (upd s0 b (srcC ex code a7 s7)) b3 [R, .isl false 3 (linksV ls), OV, XV, q, .isl true 4 []] bx = none := fun bx h => by
            have e1 := (upd_none.1 h).1
            have e2 := (upd_none.1 (upd_none.1 h).2)
            rw [upd_ne _ _ e1, upd_ne _ _ e2.1]; exact e2.2
          have hbx := le_boxes (F' := [R, .isl false 3 (linksV ls), OV, XV, q', .isl true 4 []]) (y := [.int .i64 lk.a, .int .i64 lk.b, .int .i64 lk.cost]) (z := [.int .i64 f, .int .i64 t, .int .i64 w, .int .i64 (1 + d), .int .i64 N]) (hMa _ hM10) (hMa _ hM11) (M3 _ _ _)
          rw [upd_upd] at hbx
          rw [hB] at ho7
          obtain ⟨σ8, f8, ho8⟩ := ownL_less ho7 hbx
          refine W_freezeL (σ' := σ8) (T' := [(0, .ptr b 0), (2, .ptr b2 0), (3, .ptr b3 0), (4, .int .i64 ((v : Int) + 1)), (9, .int .i64 ((j : Int) - 1))]) f8 (frzT_of_sub (by simp (disch := omega) only [subT, Int.natCast_add, Int.cast_ofNat_Int, k0, k2, k3, k4, k9, go_sem] <;> (repeat' apply And.intro) <;> first | rfl | (congr 1; omega) | assumption)) ?_
          have hlk2 := linkP_mem hlm (joinB_self lk)
          have hlk3 := linkP_mem hlm (joinB_swap lk)
          obtain ⟨j, rfl⟩ : ∃ j', j = j' + 1 := ⟨j - 1, by omega⟩
          refine ih (j, is ++ [⟨f, t, w, 1 + d, N⟩], a7, s7, q', σ8) _ _ ⟨by simp only; omega, by simp only [List.length_append, List.length_singleton]; omega, fun x hx => ?_, by simp only; omega, hs7, ho8⟩ (by simp only; omega) (by simp (disch := omega) only [subT, Int.natCast_add, Int.cast_ofNat_Int, go_sem] <;> (repeat' apply And.intro) <;> first | rfl | (congr 1; omega) | assumption) rfl
          rcases List.mem_append.1 hx with hx | hx
          · exact hall x hx
          · rw [List.mem_singleton.1 hx]
            simp only [impOn, impB, inB, Bool.and_eq_true, decide_eq_true_eq]
            refine ⟨?_, ⟨⟨by omega, by omega⟩, ⟨by omega, by omega⟩⟩, ?_⟩
            · rcases hft with ⟨rfl, rfl⟩ | ⟨rfl, rfl⟩
              · exact hlk2
              · exact hlk3
            · split
              · omega
              · rename_i hne; rcases hN with h | h <;> omega
        · clear ih
          have hin := ownL_frzIn (cs' := [R, .isl false 3 (linksV ls), OV, XV, .isl false 5 (impsV is), .isl true 4 []]) ho (by simp only [List.mem_cons, List.not_mem_nil, or_false, forall_eq_or_imp, forall_eq]; exact ⟨hR1, rfl, hO1, hX1, rfl, rfl⟩) (fun hf => by exact ⟨.refl _, .refl _, .refl _, .refl _, hf, .refl _, trivial⟩)
          have ha3 : 0 ≤ a ∧ a ≤ 160 := by omega
          by_cases c8 : j > 0
          case' pos =>
            have d1 : decide ((j : Int) > 0) = true := decide_eq_true (by omega)
            have d2 : decide ((ls.length : Int) > 0) = false := decide_eq_false (by omega)
            simp (disch := omega) only [d1, d2, g3, linksV_len, go_sem]
            clear d1 d2 c7 c8
          case' neg =>
            have d1 : decide ((j : Int) > 0) = false := decide_eq_false (by omega)
            simp (disch := omega) only [d1, go_sem]
            clear d1 c7 c8
          all_goals
            refine SRun.freezeIn (T' := [(0, V.ptr b 0), (2, V.ptr b2 0), (3, V.ptr b3 0), (4, V.int .i64 ((v : Int) + 1)), (144, V.ptr b 0)]) hin (frzT_of_sub (by simp (disch := omega) only [subT, Int.natCast_add, Int.cast_ofNat_Int, go_sem] <;> (repeat' apply And.intro) <;> first | rfl | (congr 1; omega) | assumption)) ?_
            refine SRun.callQ (next_ok (Mb _ _ _) (by omega) hs) ⟨[], rfl, rfl⟩ rfl ?_
            rintro r sx ⟨y3, a5, s5, z1, z2, z3, z4, z5, z6, z7, rfl, rfl⟩
            have hy3 := z3 (by omega)
            obtain ⟨y3, rfl⟩ : ∃ v' : Nat, y3 = v' := ⟨y3.toNat, by omega⟩
            rw [Mu]
            have ha5 : 0 ≤ a5 ∧ a5 ≤ 163 := by omega
            simp (disch := omega) only [go_sem]
            refine W_loopC (α := Nat × List Fil × Int × Int × V × St) (fun p => p.1 ≤ y3 ∧ p.2.1.length + p.1 ≤ y3 ∧ (∀ x ∈ p.2.1, filOn ls x = true) ∧ (0 ≤ p.2.2.1 ∧ p.2.2.1 ≤ 163 + 9 * ((y3 : Int) - p.1)) ∧ (0 ≤ p.2.2.2.1 ∧ p.2.2.2.1 < 2147483648) ∧ OwnL (upd (upd s0 b (srcC ex code p.2.2.1 p.2.2.2.1)) b3 [R, .isl false 3 (linksV ls), OV, XV, .isl false 5 (impsV is), p.2.2.2.2.1]) 4 (filsV p.2.1) p.2.2.2.2.1 p.2.2.2.2.2)
              (fun p => [(0, .ptr b 0), (2, .ptr b2 0), (3, .ptr b3 0), (4, .int .i64 ((v : Int) + 1)), (12, .int .i64 (p.1 : Nat))]) (fun p => p.2.2.2.2.2) (fun p => p.1) (y3, [], a5, s5, .isl true 4 [], _) ⟨by simp, by simp, by simp, by simp only; omega, ⟨z6, z7⟩, OwnL.nil _ _⟩ (by simp (disch := omega) only [subT, Int.natCast_add, Int.cast_ofNat_Int, go_sem] <;> (repeat' apply And.intro) <;> first | rfl | (congr 1; omega) | assumption) rfl ?_
            clear z1 z2 z3 z4 z5 z6 z7 ha5 hin ho gb g3 gq1
            generalize hIV : V.isl false 5 (impsV is) = IV
            have hI1 : IV.one = true := by subst hIV; rfl
            rintro ⟨j, fs, a, s, q, σ1⟩ ⟨hj, hfl, hfa, ha, hs, ho⟩ ih
            dsimp only at hj hfl hfa ha hs ho
            have gb := ho.get (Mb _ _ _)
            have g3 := ho.get (M3 _ _ _)
            have gq1 := ho.one
            simp (disch := omega) only [go_sem]
            by_cases c9 : j > 0 ∧ ls.length > 0
            · have d1 : decide ((j : Int) > 0) = true := decide_eq_true (by omega)
              have d2 : decide ((ls.length : Int) > 0) = true := decide_eq_true (by omega)
              simp (disch := omega) only [d1, d2, g3, linksV_len, go_sem]
              rw [W_draw]
              have g3d : del σ1 b b3 = some [R, .isl false 3 (linksV ls), OV, XV, IV, q] := by rw [del_ne _ e3]; exact g3
              refine DRun.start (DRun.mixR1 gb (fun T s' => ∃ x a4 s4 b13, 0 ≤ x ∧ x < (ls.length : Int) ∧ a ≤ a4 ∧ a4 ≤ a + 3 ∧ (0 ≤ s4 ∧ s4 < 2147483648) ∧ b13 ≠ b ∧ σ1 b13 = none ∧ s' = upd (upd emp b (srcC ex code a4 s4)) b13 [.int .i64 0, .int .i64 0, .int .i64 0] ∧ look T 0 = .ptr b 0 ∧ look T 2 = .ptr b2 0 ∧ look T 3 = .ptr b3 0 ∧ look T 4 = .int .i64 ((v : Int) + 1) ∧ look T 12 = .int .i64 (j : Nat) ∧ look T 13 = .ptr b13 0 ∧ look T 164 = .agg (linkC (ls.getD x.toNat default))) rfl ?_ ?_)
              · have hlt : ∀ l : Link, (linkC l).take 3 = linkC l := fun _ => rfl
                have hlt2 : ∀ l : Link, (linkC l).length = 3 := fun _ => rfl
                have hfree : ∀ {b10 : Nat} {z y : List V}, disj (upd (upd emp b z) b10 y) (del σ1 b) → (upd emp b z) b10 = none → b10 ≠ b ∧ σ1 b10 = none := fun {b10 z y} hd hn => by
                  have e := (upd_none.1 hn).1
                  refine ⟨e, ?_⟩
                  have := (hd b10).resolve_left (by rw [upd_same]; simp)
                  rwa [del_ne _ e] at this
                simp (disch := omega) only [g3d, linksV_len, go_sem]
                refine DS.wr2 (WrF.call (next_ok (upd_same emp b (srcC ex code a s)) (by omega) hs) ⟨[], rfl, rfl⟩) rfl ?_ ?_
                · rintro r sx ⟨x, a4, s4, w1, w2, w3, w4, w5, w6, w7, rfl, rfl⟩ hd
                  have hx := w3 (by omega)
                  rw [upd_upd]
                  simp (disch := omega) only [hlt, hlt2, go_sem]
                  refine DS.wrQ WrF.alloc rfl ?_
                  rintro _ s9 ⟨b10, hb10, rfl, rfl⟩ hd9
                  obtain ⟨f1, f2⟩ := hfree hd9 hb10
                  refine ⟨x, a4, s4, b10, w1, hx, w4, w5, ⟨w6, w7⟩, f1, f2, rfl, ?_⟩
                  (repeat' apply And.intro) <;> rfl
                · refine DS.wrQ WrF.alloc rfl ?_
                  rintro _ s9 ⟨b10, hb10, rfl, rfl⟩ hd9
                  obtain ⟨f1, f2⟩ := hfree hd9 hb10
                  simp (disch := omega) only [go_sem]
                  refine DS.wrQ (WrF.call (next_ok (by rw [upd_ne _ _ f1.symm, upd_same]) (by omega) hs) ⟨[], rfl, rfl⟩) rfl ?_
                  rintro r sx ⟨x, a4, s4, w1, w2, w3, w4, w5, w6, w7, rfl, rfl⟩ hd
                  have hx := w3 (by omega)
                  rw [upd_comm _ f1, upd_upd]
                  simp (disch := omega) only [hlt, hlt2, go_sem]
                  refine ⟨x, a4, s4, b10, w1, hx, w4, w5, ⟨w6, w7⟩, f1, f2, rfl, ?_⟩
                  (repeat' apply And.intro) <;> rfl
              rintro T s' ⟨x, a4, s4, b13, x0, x1, a41, a42, hs4, f1, f2, rfl, k0, k2, k3, k4, k12, k13, k164⟩
              rw [cup_del2 f1]
              have hlm := getD_mem (xs := ls) default (by omega : x.toNat < ls.length)
              generalize ls.getD x.toNat default = lk at *
              have hlc : linkC lk = [.int .i64 lk.a, .int .i64 lk.b, .int .i64 lk.cost] := rfl
              have hM13 : upd (upd s0 b (srcC ex code a s)) b3 [R, .isl false 3 (linksV ls), OV, XV, IV, q] b13 = none := by
                cases e : upd (upd s0 b (srcC ex code a s)) b3 [R, .isl false 3 (linksV ls), OV, XV, IV, q] b13 with
                | none => rfl
                | some c => rw [ho.get e] at f2; cases f2
              have f3 : b3 ≠ b13 := fun e => by subst e; rw [g3] at f2; cases f2
              obtain ⟨B, hB⟩ : ∃ B : Int → Int → List V → St, B = fun a s y => upd (upd (upd s0 b (srcC ex code a s)) b3 [R, .isl false 3 (linksV ls), OV, XV, IV, q]) b13 y := ⟨_, rfl⟩
              have Bb : ∀ a s y, B a s y b = some (srcC ex code a s) := fun a s y => by rw [hB]; simp only; rw [upd_ne _ _ f1.symm]; exact Mb _ _ _
              have B3 : ∀ a s y, B a s y b3 = some [R, .isl false 3 (linksV ls), OV, XV, IV, q] := fun a s y => by rw [hB]; simp only; rw [upd_ne _ _ f3]; exact M3 _ _ _
              have B13 : ∀ a s y, B a s y b13 = some y := fun a s y => by rw [hB]; exact upd_same _ _ _
              have Bu : ∀ a s a' s' y, upd (B a s y) b (srcC ex code a' s') = B a' s' y := fun a s a' s' y => by rw [hB]; simp only; rw [upd_comm _ f1, Mu]
              simp (disch := omega) only [k13, k164, hlc, k0, go_sem]
              have ho2 : OwnL (B a4 s4 [.int .i64 lk.a, .int .i64 lk.b, .int .i64 lk.cost]) 4 (filsV fs) q (upd (upd σ1 b (srcC ex code a4 s4)) b13 [.int .i64 lk.a, .int .i64 lk.b, .int .i64 lk.cost]) := by
                have h4 := ho.upd (c' := srcC ex code a4 s4) (Mb _ _ _)
                rw [Mu] at h4
                rw [hB]
                exact h4.ext (by rw [upd_ne _ _ f1]; exact f2)
              generalize upd (upd σ1 b (srcC ex code a4 s4)) b13 [V.int .i64 lk.a, .int .i64 lk.b, .int .i64 lk.cost] = σ2 at *
              refine SRun.callQ (next_ok (ho2.get (Bb _ _ _)) (by omega) hs4) ⟨[], rfl, rfl⟩ rfl ?_
              rintro r sx ⟨lo, a6, s6, u1, u2, u3, u4, u5, u6, u7, rfl, rfl⟩
              have hlo := u3 (by omega)
              have ho3 := ho2.upd (c' := srcC ex code a6 s6) (Bb _ _ _)
              rw [Bu] at ho3
              generalize upd σ2 b (srcC ex code a6 s6) = σ3 at *
              simp (disch := omega) only [go_sem]
              rw [W_draw]
              have g33 := ho3.get (B3 _ _ _)
              have g3d : del σ3 b b3 = some [R, .isl false 3 (linksV ls), OV, XV, IV, q] := by rw [del_ne _ e3]; exact g33
              have g13d : del σ3 b b13 = some [.int .i64 lk.a, .int .i64 lk.b, .int .i64 lk.cost] := by rw [del_ne _ f1]; exact ho3.get (B13 _ _ _)
              refine DRun.start (DRun.mix1 (ho3.get (Bb _ _ _)) rfl ?_)
              simp (disch := omega) only [g3d, g13d, k0, k3, k13, go_sem]
              refine DS.callQ (next_ok (upd_same emp b (srcC ex code a6 s6)) (by omega) ⟨u6, u7⟩) ⟨[], rfl, rfl⟩ rfl ?_
              rintro r sx ⟨w, a7, s7, w1, w2, w3, w4, w5, w6, w7, rfl, rfl⟩ _
              have hw := w3 (by omega)
              rw [upd_upd]
              simp (disch := omega) only [go_sem]
              refine ⟨_, rfl, ?_⟩
              have ho4 := ho3.upd (c' := srcC ex code a7 s7) (Bb _ _ _)
              rw [Bu] at ho4
              refine DRun.appL ho4 rfl (filn1_ok ⟨lk.a, lk.b, lo, lo + w⟩) (by rw [filsV_len]; simp only [List.length_singleton]; omega) ?_
              intro q' σ6 ho6
              have hap : filsV fs ++ [V.agg [.int .i64 lk.a, .int .i64 lk.b, .int .i64 lo, .int .i64 (lo + w)]] = filsV (fs ++ [⟨lk.a, lk.b, lo, lo + w⟩]) := filsn_app fs ⟨lk.a, lk.b, lo, lo + w⟩
              rw [hap] at ho6
              simp (disch := omega) only [k3, k12, ho6.get (B3 _ _ _), ho6.one, ho6.cells, go_sem]
              have ho7 := ho6.upd (c' := [R, .isl false 3 (linksV ls), OV, XV, IV, q']) (B3 _ _ _)
              have hMa : upd (upd s0 b (srcC ex code a7 s7)) b3 [R, .isl false 3 (linksV ls), OV, XV, IV, q] b13 = none := by
                have e1 := (upd_none.1 hM13).1
                have e2 := (upd_none.1 (upd_none.1 hM13).2)
                rw [upd_ne _ _ e1, upd_ne _ _ e2.1]; exact e2.2
              have hbx : ∀ d x, upd (upd s0 b (srcC ex code a7 s7)) b3 [R, .isl false 3 (linksV ls), OV, XV, IV, q'] d = some x → upd (B a7 s7 [.int .i64 lk.a, .int .i64 lk.b, .int .i64 lk.cost]) b3 [R, .isl false 3 (linksV ls), OV, XV, IV, q'] d = some x := by
                intro d x h
                by_cases e : d = b3
                · subst e; rw [upd_same] at h ⊢; exact h
                · rw [upd_ne _ _ e] at h ⊢
                  have e13 : d ≠ b13 := fun e => by subst e; rw [upd_ne _ _ f3.symm] at hMa; rw [hMa] at h; cases h
                  rw [hB]; simp only; rw [upd_ne _ _ e13, upd_ne _ _ e]; exact h
              obtain ⟨σ8, f8, ho8⟩ := ownL_less ho7 hbx
              refine W_freezeL (σ' := σ8) (T' := [(0, .ptr b 0), (2, .ptr b2 0), (3, .ptr b3 0), (4, .int .i64 ((v : Int) + 1)), (12, .int .i64 ((j : Int) - 1))]) f8 (frzT_of_sub (by simp (disch := omega) only [subT, Int.natCast_add, Int.cast_ofNat_Int, k0, k2, k3, k4, k12, go_sem] <;> (repeat' apply And.intro) <;> first | rfl | (congr 1; omega) | assumption)) ?_
              have hlk2 := linkP_mem hlm (joinB_self lk)
              obtain ⟨j, rfl⟩ : ∃ j', j = j' + 1 := ⟨j - 1, by omega⟩
              refine ih (j, fs ++ [⟨lk.a, lk.b, lo, lo + w⟩], a7, s7, q', σ8) _ _ ⟨by simp only; omega, by simp only [List.length_append, List.length_singleton]; omega, fun x hx => ?_, by simp only; omega, ⟨w6, w7⟩, ho8⟩ (by simp only; omega) (by simp (disch := omega) only [subT, Int.natCast_add, Int.cast_ofNat_Int, go_sem] <;> (repeat' apply And.intro) <;> first | rfl | (congr 1; omega) | assumption) rfl
              rcases List.mem_append.1 hx with hx | hx
              · exact hfa x hx
              · rw [List.mem_singleton.1 hx]
                simp only [filOn, inB, Bool.and_eq_true, decide_eq_true_eq]
                exact ⟨⟨hlk2, by omega, by omega⟩, by omega⟩
            · clear ih
              have g2' := ho.get (M2 _ _ _)
              have hqc := ho.cells
              obtain ⟨n, hn⟩ : ∃ n : Net, n = ⟨names4 (v + 1), ls, os, xs, is, fs⟩ := ⟨_, rfl⟩
              have hcast : ((names4 (v + 1)).length : Int) = (v : Int) + 1 := by rw [hkl]; rfl
              have hNB : netB n = true := by
                subst hn
                have k1 := names4_ok (k := v + 1) (by omega)
                have k2 : (List.range ls.length).all (linkAt ((names4 (v + 1)).length : Int) ls) = true := by rw [hcast]; exact hlk
                have k3 : is.all (impOn ls) = true := List.all_eq_true.2 hall
                have k4 : fs.all (filOn ls) = true := List.all_eq_true.2 hfa
                have k5 : risingB ((names4 (v + 1)).length : Int) os = true := by rw [hcast]; exact hio
                have k6 : risingB ((names4 (v + 1)).length : Int) xs = true := by rw [hcast]; exact hxr
                unfold netB
                rw [k1, k2, k3, k4, k5, k6, decide_eq_true (by rw [hkl]; omega : 1 ≤ (names4 (v + 1)).length), decide_eq_true (by rw [hkl]; omega : (names4 (v + 1)).length ≤ 4), decide_eq_true hll, decide_eq_true (by omega : is.length ≤ 12), decide_eq_true (by omega : fs.length ≤ 6), decide_eq_true (by omega : xs.length ≤ 2)]
                rfl
              have hNL : NetLen n := by
                subst hn
                refine ⟨by rw [hkl]; omega, fun w hw => ?_, by simp only; omega, by simp only; omega, by simp only; omega, by simp only; omega, by simp only; omega⟩
                have := List.mem_of_mem_take hw
                simp only [List.mem_cons, List.not_mem_nil, or_false] at this
                rcases this with rfl | rfl | rfl | rfl <;> simp
              have hos : n.origins.length ≤ 4 := by subst hn; simp only; omega
              have fin : ∀ σ9, σ9 = upd σ1 b2 [R, .isl false 3 (linksV ls), OV, XV, IV, q] → Conv σ9 (.agg [R, .isl false 3 (linksV ls), OV, XV, IV, q]) (upd σ b (srcC ex code a s)) (netV n) := by
                rintro _ rfl
                refine ⟨fun d x hd => ?_, ?_⟩
                · have e2d : d ≠ b2 := fun e => by subst e; rw [upd_ne _ _ e2, hb2] at hd; cases hd
                  have e3d : d ≠ b3 := fun e => by
                    subst e
                    rw [upd_ne _ _ e3] at hd
                    rw [hσ0 _ _ hd] at h03; cases h03
                  rw [upd_ne _ _ e2d]
                  refine ho.get ?_
                  rw [upd_ne _ _ e3d]
                  by_cases eb : d = b
                  · subst eb; rw [upd_same] at hd ⊢; exact hd
                  · rw [upd_ne _ _ eb] at hd ⊢; exact hσ0 _ _ hd
                · subst hn hRV hOV hXV hIV
                  have hq : Frz (upd σ1 b2 [V.isl (decide (1 + (v : Int) = 4)) 1 (strsV (names4 (v + 1))), .isl false 3 (linksV ls), .isl false 1 (ints os), .isl fx 1 (ints xs), .isl false 5 (impsV is), q]) (upd σ b (srcC ex code a s)) q (.isl false 4 (filsV fs)) := ho.frz (fun d hd => by
                    have hd3 := (upd_none.1 hd).1
                    have hd2 : d ≠ b2 := fun e => by
                      subst e
                      rw [upd_ne _ _ e23, upd_ne _ _ e2, g2] at hd; cases hd
                    rw [upd_ne _ _ hd2]) (fun d hd => by
                    have h1 := upd_none.1 (upd_none.1 hd).2
                    rw [upd_ne _ _ h1.1]
                    cases e : σ d with
                    | none => rfl
                    | some c => rw [hσ0 _ _ e] at h1; cases h1.2)
                  exact frz_agg (by exact ⟨.isl _ _ _, .refl _, .refl _, .isl _ _ _, .refl _, hq, trivial⟩) (net_one _)
              by_cases c8 : j > 0
              case' pos =>
                have d1 : decide ((j : Int) > 0) = true := decide_eq_true (by omega)
                have d2 : decide ((ls.length : Int) > 0) = false := decide_eq_false (by omega)
                simp (disch := omega) only [Z6, d1, d2, g3, g2', linksV_len, gq1, hqc, hR1, hO1, hX1, hI1, go_sem]
              case' neg =>
                have d1 : decide ((j : Int) > 0) = false := decide_eq_false (by omega)
                simp (disch := omega) only [Z6, d1, g3, g2', gq1, hqc, hR1, hO1, hX1, hI1, go_sem]
              all_goals
                exact W_retC c44_ok (resV_cellA rfl (upd_same _ _ _) rfl) (fin _ rfl) ⟨n, a, s, hNB, hNL, hos, ha.1, by omega, hs.1, hs.2, rfl, rfl⟩
end
section
attribute [local irreducible] SRun DS DRun
variable {Γ : St} {σ σ0 : St}
theorem NetOf_ok {ex : Bool} {code : List UInt8} (hl : code.length ≤ 140737488355328) : ACalls Tryz.prog Γ 12 [codeV ex code] σ fun r σ' => ∃ n, netB n = true ∧ NetLen n ∧ n.origins.length ≤ 4 ∧ r = netV n ∧ σ' = σ := by
  refine acalls_W c12_ok rfl ?_
  simp (disch := omega) only [c12, go_sem]
  refine SRun.allocR ?_
  intro b2 hb2
  simp (disch := omega) only [go_sem]
  refine SRun.callQ (source_ok hl) ⟨[], rfl, rfl⟩ rfl ?_
  rintro r σ1 ⟨b, s, hb, hs1, hs2, rfl, rfl⟩
  have nb := upd_none.1 hb
  simp (disch := omega) only [go_sem]
  refine SRun.callQ (net_ok (upd_same _ b (srcC ex code 0 s)) ⟨hs1, hs2⟩) ⟨[], rfl, rfl⟩ rfl ?_
  rintro r σ3 ⟨n, a3, s3, q1, q2, q3, q4, q5, q6, q7, rfl, rfl⟩
  rw [upd_upd]
  have g2 : ∀ c, upd (upd σ b2 [V.isl true 0 [], V.isl true 0 [], V.isl true 0 [], V.isl true 0 [], V.isl true 0 [], V.isl true 0 []]) b c b2 = some [V.isl true 0 [], V.isl true 0 [], V.isl true 0 [], V.isl true 0 [], V.isl true 0 [], V.isl true 0 []] := fun c => by rw [upd_ne _ _ nb.1.symm, upd_same]
  have hne := net_one n
  have hnc : netV n = .agg (netC n) := rfl
  have hlen2 : (netC n).length = 6 := rfl
  have hone : (∀ c, c ∈ netC n → c.one = true) = True := eq_true hne
  have hsets : sets [V.isl true 0 [], V.isl true 0 [], V.isl true 0 [], V.isl true 0 [], V.isl true 0 [], V.isl true 0 []] 0 (netC n) = netC n := rfl
  rw [hnc]
  simp (disch := omega) only [g2, hlen2, hone, hsets, go_sem]
  refine W_retC c12_ok (r := .agg (netC n)) (σ' := σ) (r' := netV n) (resV_cellA rfl (upd_same _ _ _) rfl) (Conv.drop _ fun c x hc => ?_) ⟨n, q1, q2, q3, rfl, rfl⟩
  have hc2 : c ≠ b2 := fun e => by subst e; rw [hb2] at hc; cases hc
  have hcb : c ≠ b := fun e => by subst e; rw [nb.2] at hc; cases hc
  rw [upd_ne _ _ hc2, upd_ne _ _ hcb, upd_ne _ _ hc2]; exact hc
theorem bools_app (xs : List Bool) (x : Bool) : bools xs ++ [.bool x] = bools (xs ++ [x]) := by simp [bools]
theorem bool1_ok (x : Bool) : ∀ y ∈ [V.bool x], y.cells.length = 1 ∧ ∀ c ∈ y.cells, c.one = true := by
  intro y hy; rw [List.mem_singleton.1 hy]; simp [V.cells, V.one]
end
end Go.Proofs.YtjibkkhgejcjeaaGreatDoor.Lg
