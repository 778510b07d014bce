/- What is told of the functions that are reached, as far as it is asked here. -/
import Derived.Test.YtjibkkhgejcjeaaGreatDoorKj3
import Derived.KernelRfl
set_option linter.unusedSimpArgs false
set_option linter.unusedVariables false
namespace Go.Proofs.YtjibkkhgejcjeaaGreatDoor.Lg
open Go
section
attribute [local irreducible] SRun DS DRun
variable {Γ : St} {σ σ0 : St}
theorem indexFInt_ok {ex : Bool} {xs : List Int} {F : FuncId} {caps : List V} {p : Int → Bool} (hl : xs.length ≤ 1000000000000) (hp : ∀ x ∈ xs, Ret Tryz.prog Γ F (.int .i64 x :: caps) σ (.bool (p x)) σ) :
    Ret Tryz.prog Γ 124 [.isl ex 1 (ints xs), .fn F caps] σ (.int .i64 (firstP p xs)) σ := by
  refine ret_of c124_ok rfl ?_
  simp (disch := omega) only [c124, go_sem]
  refine W_loopC (α := Nat) (fun i => i ≤ xs.length ∧ ∀ j, j < i → p (xs.getD j default) = false) (fun i => [(0, .isl ex 1 (ints xs)), (1, .fn F caps), (7, .int .i64 xs.length), (8, .int .i64 (i : Nat))]) (fun _ => σ) (fun i => xs.length - i) 0 ⟨by omega, fun j hj => by omega⟩ (by simp (disch := omega) only [subT, Int.natCast_add, Int.cast_ofNat_Int, go_sem] <;> (repeat' apply And.intro) <;> first | rfl | (congr 1; omega) | assumption) rfl ?_
  rintro i ⟨hi, hno⟩ ih
  simp (disch := omega) only [go_sem]
  first | refine iteW_dec (fun hq => ?_) (fun hq => ?_) | refine iteW_of (fun hq => ?_) (fun hq => ?_)
  · simp (disch := omega) only [go_sem]
    refine SRun.callR (hp _ (getD_mem 0 (by omega : i < xs.length))) ⟨caps, rfl, rfl⟩ rfl ?_
    generalize hpb : p (xs.getD i 0) = q
    cases q with
    | true =>
      simp (disch := omega) only [go_sem]
      exact W_retR c124_ok rfl ⟨by rw [first_some (by omega) hno hpb]; rfl, rfl⟩
    | false =>
      simp (disch := omega) only [go_sem]
      refine ih (i + 1) _ _ ⟨by omega, fun j hj => ?_⟩ (by omega) (by simp (disch := omega) only [subT, Int.natCast_add, Int.cast_ofNat_Int, go_sem] <;> (repeat' apply And.intro) <;> first | rfl | (congr 1; omega) | assumption) rfl
      by_cases e : j = i
      · subst e; exact hpb
      · exact hno j (by omega)
  · have hil : i = xs.length := by omega
    rw [hil] at hno
    simp (disch := omega) only [go_sem]
    exact W_retR c124_ok rfl ⟨by rw [first_none hno]; rfl, rfl⟩
theorem containsFInt_ok {ex : Bool} {xs : List Int} {F : FuncId} {caps : List V} {p : Int → Bool} (hl : xs.length ≤ 1000000000000) (hp : ∀ x ∈ xs, Ret Tryz.prog Γ F (.int .i64 x :: caps) σ (.bool (p x)) σ) :
    Ret Tryz.prog Γ 95 [.isl ex 1 (ints xs), .fn F caps] σ (.bool (xs.any p)) σ := by
  have := first_any (p := p) (xs := xs)
  refine ret_of c95_ok rfl ?_
  simp (disch := omega) only [c95, go_sem]
  refine SRun.callR (indexFInt_ok hl hp) ⟨[], rfl, rfl⟩ rfl ?_
  simp (disch := omega) only [this, go_sem]
  exact W_retR c95_ok rfl ⟨rfl, rfl⟩
end
section
attribute [local irreducible] SRun DS DRun
variable {Γ : St} {σ σ0 : St}
structure ViasR (n : Net) (vias : List Int) : Prop where
  len : vias.length = n.routers.length
  ok : ∀ i : Nat, i < vias.length → -3 ≤ vias.getD i 0 ∧ vias.getD i 0 < n.routers.length
end
section
attribute [local irreducible] SRun DS DRun
variable {Γ : St} {σ σ0 : St}
theorem areVias1_ok {n : Net} {b : Nat} {x : Int} (hn : NetR n) (hb : σ b = some (netC n)) : Ret Tryz.prog Γ 96 [.int .i64 x, .ptr b 0] σ (.bool (!inB x (-3) (n.routers.length - 1))) σ := by
  have r1 := hn.r1
  have r4 := hn.r4
  have e0 : (netC n)[0]? = some (.isl false 1 (strsV n.routers)) := rfl
  refine ret_of c96_ok rfl ?_
  simp (disch := omega) only [c96, go_sem]
  simp (disch := omega) only [hb, e0, go_sem]
  refine SRun.callR (within_ok x (-3) (n.routers.length - 1)) ⟨[], rfl, rfl⟩ rfl ?_
  simp (disch := omega) only [go_sem]
  exact W_retR c96_ok rfl ⟨rfl, rfl⟩
theorem areVias_ok {n : Net} {ex : Bool} {vias : List Int} (hn : NetR n) (hv : ViasR n vias) : Ret Tryz.prog Γ 48 [netV n, .isl ex 1 (ints vias)] σ (.bool true) σ := by
  have r4 := hn.r4
  have hl := hv.len
  have e0 : (netC n)[0]? = some (.isl false 1 (strsV n.routers)) := rfl
  refine ret_of c48_ok rfl ?_
  simp (disch := omega) only [c48, netV, go_sem]
  refine SRun.boxR (net_one n) ?_
  intro b2 hb2
  have g2 := upd_same σ b2 (netC n)
  have hσ : ∀ d x, σ d = some x → upd σ b2 (netC n) d = some x := le_upd hb2
  simp (disch := omega) only [go_sem]
  generalize upd σ b2 (netC n) = s1 at *
  have d1 : decide ((vias.length : Int) = n.routers.length) = true := decide_eq_true (by omega)
  simp (disch := omega) only [g2, e0, d1, go_sem]
  refine SRun.callR (containsFInt_ok (ex := ex) (xs := vias) (F := 96) (caps := [.ptr b2 0]) (p := fun x => !inB x (-3) (n.routers.length - 1)) (by omega) fun x _ => areVias1_ok hn g2) ⟨[], rfl, rfl⟩ rfl ?_
  have hno : (vias.any fun x => !inB x (-3) (n.routers.length - 1)) = false := by
    rw [List.any_eq_false]
    intro x hx
    obtain ⟨i, hi, rfl⟩ := List.getElem_of_mem hx
    have := hv.ok i hi
    rw [show vias.getD i 0 = vias[i] by simp [List.getD, hi]] at this
    simp [inB]; omega
  rw [hno]
  simp (disch := omega) only [go_sem]
  exact W_retC c48_ok rfl (Conv.drop _ hσ) ⟨rfl, rfl⟩
end
end Go.Proofs.YtjibkkhgejcjeaaGreatDoor.Lg
/- What is told of the functions that are reached, as far as it is asked here. -/
set_option linter.unusedSimpArgs false
set_option linter.unusedVariables false
namespace Go.Proofs.YtjibkkhgejcjeaaGreatDoor.Lg
open Go
section
attribute [local irreducible] SRun DS DRun
variable {Γ : St} {σ σ0 : St}
theorem map_snoc {rs : List Rt} {j : Nat} (hj : j < rs.length) : ints ((rs.take j).map (·.via)) ++ [.int .i64 (rs.getD j default).via] = ints ((rs.take (j + 1)).map (·.via)) := by
  rw [take_succ (xs := rs) (i := j) default hj, List.map_append, ints_app]; rfl
theorem l08Vias_own {ex : Bool} {rs : List Rt} (hl : rs.length ≤ 1000000000) : ACalls Tryz.prog Γ 94 [.isl ex 4 (rtsV rs)] σ fun q s => OwnL σ 1 (ints (rs.map (·.via))) q s := by
  have hrt0 : ∀ r : Rt, (rtC r)[0]? = some (.int .i64 r.via) := fun _ => rfl
  refine acalls_W c94_ok rfl ?_
  simp (disch := omega) only [c94, go_sem]
  refine W_loopC (α := Nat × V × St) (fun p => p.1 ≤ rs.length ∧ OwnL σ 1 (ints ((rs.take p.1).map (·.via))) p.2.1 p.2.2) (fun p => [(0, .isl ex 4 (rtsV rs)), (3, p.2.1), (4, .int .i64 (p.1 : Nat))]) (fun p => p.2.2) (fun p => rs.length - p.1) (0, _, σ) ⟨by simp, OwnL.nil _ 1⟩ (by simp (disch := omega) only [subT, Int.natCast_add, Int.cast_ofNat_Int, go_sem] <;> (repeat' apply And.intro) <;> first | rfl | (congr 1; omega) | assumption) rfl ?_
  rintro ⟨i, q, s⟩ ⟨hi, ho1⟩ ih
  dsimp only at hi ho1
  simp (disch := omega) only [go_sem]
  first | refine iteW_dec (fun h1 => ?_) (fun h1 => ?_) | refine iteW_of (fun h1 => ?_) (fun h1 => ?_)
  · have hi' : i < rs.length := by omega
    have htl : (rs.take i).length = i := by rw [List.length_take]; omega
    simp (disch := omega) only [hrt0, go_sem]
    refine SRun.appL ho1 rfl (ints_ok [(rs.getD i default).via]) (by rw [ints_len, List.length_map, htl, List.length_singleton]; omega) ?_
    intro q2 s2 ho2
    rw [map_snoc hi'] at ho2
    simp (disch := omega) only [go_sem]
    exact ih (i + 1, q2, s2) _ _ ⟨by simp only; omega, ho2⟩ (by simp only; omega) (by simp (disch := omega) only [subT, Int.natCast_add, Int.cast_ofNat_Int, go_sem] <;> (repeat' apply And.intro) <;> first | rfl | (congr 1; omega) | assumption) rfl
  · have hil : i = rs.length := by omega
    subst hil
    rw [List.take_length] at ho1
    simp (disch := omega) only [go_sem]
    exact W_retR c94_ok rfl ho1
end
section
attribute [local irreducible] SRun DS DRun
variable {Γ : St} {σ σ0 : St}
theorem boolsOk (xs : List Bool) : ∀ y ∈ bools xs, y.cells.length = 1 ∧ ∀ c ∈ y.cells, c.one = true := by
  intro y hy
  simp only [bools, List.mem_map] at hy
  obtain ⟨b, _, rfl⟩ := hy
  simp [V.cells, V.one]
theorem walk_conv {f : FuncId} {args : List V} {w : Int × List Int} (h : ACalls Tryz.prog Γ f args σ fun r s => ∃ q, r = .agg [.int .i64 w.1, q] ∧ PathO σ 1 (ints w.2) q s) : Ret Tryz.prog Γ f args σ (walkV w) σ :=
  ACalls.conv h fun r s ⟨q, h1, h2⟩ => by
    subst h1
    exact ⟨_, σ, ⟨h2.le, frz_agg (by exact ⟨.refl _, h2.frz, trivial⟩) (by simp [V.one])⟩, rfl, rfl⟩
theorem walkR {n : Net} {ex : Bool} {rs : List Rt} {from_ port : Int} (hf : n.filters.length ≤ 1000000000000) (hl : rs.length ≤ 1000000) (hv : ViasIn rs) (hi : ∀ v : Int, -3 ≤ (rtAt rs v).via) (h0 : 0 ≤ from_ ∧ from_ < rs.length) :
    Ret Tryz.prog Γ 123 [netV n, .isl ex 4 (rtsV rs), .int .i64 from_, .int .i64 port] σ (walkV (walkP n rs from_ port)) σ := walk_conv (l08Walk_own hf hl hv hi h0)
set_option maxHeartbeats 1000000 in
theorem l08Satisfied_ok {kd f p way o : Int} {ex : Bool} {path : List Int} (hl : path.length ≤ 1000000000000) : Ret Tryz.prog Γ 122 [.agg (propC kd f p way), .agg [.int .i64 o, .isl ex 1 (ints path)]] σ (.bool (satP kd way (o, path))) σ := by
  have p0 : (propC kd f p way)[0]? = some (.int .i64 kd) := rfl
  have p3 : (propC kd f p way)[3]? = some (.int .i64 way) := rfl
  refine ret_of c122_ok rfl ?_
  simp (disch := omega) only [c122, go_sem]
  refine SRun.boxR (prop_one kd f p way) ?_
  intro b2 hb2
  simp (disch := omega) only [go_sem]
  refine SRun.boxR (by simp [ev, look, V.cells, V.one]) ?_
  intro b3 hb3
  have n3 := upd_none.1 hb3
  have n23 : b2 ≠ b3 := n3.1.symm
  have hle := le_two hb2 n3.2
  have hdef : satP kd way (o, path) = if kd = 1 then decide (o = 1) || decide (o = 2) else if kd = 2 then !(decide (o = 1) || decide (o = 2)) else if kd = 3 then !(decide (o = 1) || decide (o = 2)) || decide (hasI path way ≥ 0) else decide (o = 1) := rfl
  generalize m1 : decide (o = 1) = q1 at *
  generalize m2 : decide (o = 2) = q2 at *
  by_cases k1 : kd = 1
  · have d1 : decide (kd = 1) = true := decide_eq_true k1
    rw [if_pos k1] at hdef
    cases q1 <;> cases q2
    all_goals
      simp (disch := omega) only [p0, p3, n23, m1, m2, d1, go_sem]
      exact W_retC c122_ok rfl (Conv.drop _ (hle _ _)) ⟨by rw [hdef]; rfl, rfl⟩
  have d1 : decide (kd = 1) = false := decide_eq_false k1
  rw [if_neg k1] at hdef
  by_cases k2 : kd = 2
  · have d2 : decide (kd = 2) = true := decide_eq_true k2
    rw [if_pos k2] at hdef
    cases q1 <;> cases q2
    all_goals
      simp (disch := omega) only [p0, p3, n23, m1, m2, d1, d2, go_sem]
      exact W_retC c122_ok rfl (Conv.drop _ (hle _ _)) ⟨by rw [hdef]; rfl, rfl⟩
  have d2 : decide (kd = 2) = false := decide_eq_false k2
  rw [if_neg k2] at hdef
  by_cases k3 : kd = 3
  · have d3 : decide (kd = 3) = true := decide_eq_true k3
    rw [if_pos k3] at hdef
    have hC := fun Γ σ => l07Has_ok (Γ := Γ) (σ := σ) (ex := ex) (xs := path) (x := way) hl
    generalize m3 : decide (hasI path way ≥ 0) = q3 at *
    cases q1 <;> cases q2
    case' false.false =>
      simp (disch := omega) only [p0, p3, n23, m1, m2, d1, d2, d3, go_sem]
    case' false.true =>
      simp (disch := omega) only [p0, p3, n23, m1, m2, d1, d2, d3, go_sem]
      refine SRun.callR (hC _ _) ⟨[], rfl, rfl⟩ rfl ?_
      simp (disch := omega) only [m3, go_sem]
    case' true.false =>
      simp (disch := omega) only [p0, p3, n23, m1, m2, d1, d2, d3, go_sem]
      refine SRun.callR (hC _ _) ⟨[], rfl, rfl⟩ rfl ?_
      simp (disch := omega) only [m3, go_sem]
    case' true.true =>
      simp (disch := omega) only [p0, p3, n23, m1, m2, d1, d2, d3, go_sem]
      refine SRun.callR (hC _ _) ⟨[], rfl, rfl⟩ rfl ?_
      simp (disch := omega) only [m3, go_sem]
    all_goals
      exact W_retC c122_ok rfl (Conv.drop _ (hle _ _)) ⟨by rw [hdef]; rfl, rfl⟩
  have d3 : decide (kd = 3) = false := decide_eq_false k3
  rw [if_neg k3] at hdef
  cases q1 <;> cases q2
  all_goals
    simp (disch := omega) only [p0, p3, n23, m1, m2, d1, d2, d3, go_sem]
    exact W_retC c122_ok rfl (Conv.drop _ (hle _ _)) ⟨by rw [hdef]; rfl, rfl⟩
end
section
attribute [local irreducible] SRun DS DRun
variable {Γ : St} {σ σ0 : St}
theorem PropertyOKs_ok {n : Net} {kd f p w : Int} (hN : NetLen n) (hP : propB n kd f p w = true) : Ret Tryz.prog Γ 17 [netV n, .agg (propC kd f p w)] σ (.bool true) σ := by
  have h := hP
  unfold propB at h
  simp only [Bool.and_eq_true] at h
  obtain ⟨⟨⟨⟨hB, h1⟩, h2⟩, h3⟩, h4⟩ := h
  simp only [inB, routerB, Bool.and_eq_true, decide_eq_true_eq] at h1 h2 h3
  have hn := netR_of hB
  have r4 := hn.r4
  have r1 := hn.r1
  have hlen : (netC n).take 6 = netC n := rfl
  have hlen2 : (netC n).length = 6 := rfl
  have e0 : (netC n)[0]? = some (.isl false 1 (strsV n.routers)) := rfl
  have p0 : (propC kd f p w)[0]? = some (.int .i64 kd) := rfl
  have p1 : (propC kd f p w)[1]? = some (.int .i64 f) := rfl
  have p2 : (propC kd f p w)[2]? = some (.int .i64 p) := rfl
  have p3 : (propC kd f p w)[3]? = some (.int .i64 w) := rfl
  refine ret_of c17_ok rfl ?_
  simp (disch := omega) only [c17, netV, go_sem]
  refine SRun.boxR (net_one n) ?_
  intro b2 hb2
  simp (disch := omega) only [go_sem]
  refine SRun.boxR (prop_one kd f p w) ?_
  intro b3 hb3
  have n3 := upd_none.1 hb3
  have g3 := upd_same (upd σ b2 (netC n)) b3 (propC kd f p w)
  have g2 : upd (upd σ b2 (netC n)) b3 (propC kd f p w) b2 = some (netC n) := by rw [upd_ne _ _ n3.1.symm, upd_same]
  have hσ := le_two hb2 n3.2 (netC n) (propC kd f p w)
  simp (disch := omega) only [go_sem]
  generalize upd (upd σ b2 (netC n)) b3 (propC kd f p w) = s1 at *
  simp (disch := omega) only [g2, hlen, hlen2, go_sem]
  refine SRun.callR (NetOK_ok hN) ⟨[], rfl, rfl⟩ rfl ?_
  rw [hB]
  have dt : ∀ {a b c : Int}, b ≤ a ∧ a ≤ c → (decide (b ≤ a) && decide (a ≤ c)) = true := fun h => by rw [decide_eq_true h.1, decide_eq_true h.2]; rfl
  simp (disch := omega) only [g3, p0, go_sem]
  refine SRun.callR (l01In_ok kd 1 4) ⟨[], rfl, rfl⟩ rfl ?_
  rw [dt (by omega)]
  simp (disch := omega) only [g2, e0, g3, p1, go_sem]
  refine SRun.callR (l01In_ok f 0 (n.routers.length - 1)) ⟨[], rfl, rfl⟩ rfl ?_
  rw [dt (by omega)]
  simp (disch := omega) only [g3, p2, go_sem]
  refine SRun.callR (l01In_ok p (-1) 15) ⟨[], rfl, rfl⟩ rfl ?_
  rw [dt (by omega)]
  simp (disch := omega) only [g3, p0, go_sem]
  by_cases k3 : kd = 3
  · have d3 : decide (kd = 3) = true := decide_eq_true k3
    rw [if_pos k3] at h4
    simp only [routerB, inB, Bool.and_eq_true, decide_eq_true_eq] at h4
    simp (disch := omega) only [d3, g3, p3, g2, e0, go_sem]
    refine SRun.callR (l01In_ok w 0 (n.routers.length - 1)) ⟨[], rfl, rfl⟩ rfl ?_
    rw [dt (by omega)]
    simp (disch := omega) only [go_sem]
    exact W_retC c17_ok rfl (Conv.drop _ hσ) ⟨rfl, rfl⟩
  · have d3 : decide (kd = 3) = false := decide_eq_false k3
    rw [if_neg k3] at h4
    simp (disch := omega) only [d3, g3, p3, h4, go_sem]
    exact W_retC c17_ok rfl (Conv.drop _ hσ) ⟨rfl, rfl⟩
end
section
attribute [local irreducible] SRun DS DRun
variable {Γ : St} {σ σ0 : St}
theorem envs_bound : ∀ x : Nat, (envsP x).length = 3 ^ x := by
  intro x
  induction x with
  | zero => rfl
  | succ x ih =>
    have : envsP (x + 1) = (envsP x).flatMap fun e => [0, 1, 2].map fun v => e ++ [v] := rfl
    rw [this, flatMap_len (m := 3) (fun c => rfl), ih, Nat.pow_succ]
def op3 : List Int := [0, 1, 2]
theorem op3_at {b : Nat} (h : b < 3) : op3.getD b 0 = b := by
  rcases (by omega : b = 0 ∨ b = 1 ∨ b = 2) with rfl | rfl | rfl <;> rfl
set_option maxHeartbeats 1000000 in
theorem l08Envs_ok {x : Nat} (hx : x ≤ 2) : Ret Tryz.prog Γ 91 [.int .i64 x] σ (.isl (decide (x = 0)) 1 (choV (envsP x))) σ := by
  refine ret_of c91_ok rfl ?_
  simp (disch := omega) only [c91, go_sem]
  refine W_loopC (α := Nat × Bool) (fun p => p.1 ≤ x ∧ p.2 = decide (p.1 = 0)) (fun p => [(0, .int .i64 x), (3, .isl p.2 1 (choV (envsP p.1))), (4, .int .i64 (p.1 : Nat))]) (fun _ => σ) (fun p => x - p.1) (0, true) ⟨by simp, rfl⟩ (by simp (disch := omega) only [subT, Int.natCast_add, Int.cast_ofNat_Int, go_sem] <;> (repeat' apply And.intro) <;> first | rfl | (congr 1; omega) | assumption) rfl ?_
  rintro ⟨i, xf⟩ ⟨hi, hxf⟩ ih
  dsimp only at hi hxf
  have hcb : (envsP i).length ≤ 9 := by
    rw [envs_bound]
    rcases (by omega : i = 0 ∨ i = 1 ∨ i = 2) with rfl | rfl | rfl <;> decide
  simp (disch := omega) only [go_sem]
  first | refine iteW_dec (fun h1 => ?_) (fun h1 => ?_) | refine iteW_of (fun h1 => ?_) (fun h1 => ?_)
  · have hsucc : envsP (i + 1) = (envsP i).flatMap fun c => op3.map fun v => c ++ [v] := rfl
    have hcm := fun c (hc : c ∈ envsP i) => (envs_fine hc).1
    have hol : op3.length = 3 := rfl
    generalize envsP i = cs at *
    simp (disch := omega) only [go_sem]
    refine W_loopC (α := Nat × V × St) (fun p => p.1 ≤ cs.length ∧ OwnL σ 1 (choV ((cs.take p.1).flatMap fun c => op3.map fun v => c ++ [v])) p.2.1 p.2.2) (fun p => [(0, .int .i64 x), (3, .isl xf 1 (choV cs)), (4, .int .i64 (i : Nat)), (5, p.2.1), (6, .int .i64 (p.1 : Nat))]) (fun p => p.2.2) (fun p => cs.length - p.1) (0, _, _) ⟨by simp, OwnL.nil _ 1⟩ (by simp (disch := omega) only [subT, Int.natCast_add, Int.cast_ofNat_Int, go_sem] <;> (repeat' apply And.intro) <;> first | rfl | (congr 1; omega) | assumption) rfl ?_
    rintro ⟨a, q, s⟩ ⟨ha, ho1⟩ ihA
    dsimp only at ha ho1
    simp (disch := omega) only [go_sem]
    first | refine iteW_dec (fun h2 => ?_) (fun h2 => ?_) | refine iteW_of (fun h2 => ?_) (fun h2 => ?_)
    · have htk := take_succ (xs := cs) (i := a) [] (by omega)
      have hpre : ((cs.take a).flatMap fun c => op3.map fun v => c ++ [v]).length ≤ 9 * 3 := by
        rw [flatMap_len (m := op3.length) (fun c => by simp)]
        exact Nat.mul_le_mul (by rw [List.length_take]; omega) (Nat.le_refl _)
      have hnx : (cs.take (a + 1)).flatMap (fun c => op3.map fun v => c ++ [v]) = (cs.take a).flatMap (fun c => op3.map fun v => c ++ [v]) ++ op3.map fun v => cs.getD a [] ++ [v] := by
        rw [htk, List.flatMap_append, List.flatMap_cons, List.flatMap_nil, List.append_nil]
      generalize (cs.take a).flatMap (fun c => op3.map fun v => c ++ [v]) = pre at *
      have hcl : (cs.getD a []).length ≤ 1000000 := by have := hcm _ (getD_mem [] (by omega : a < cs.length)); omega
      simp (disch := omega) only [go_sem]
      refine W_loopC (α := Nat × V × St) (fun p => p.1 ≤ 3 ∧ OwnL σ 1 (choV (pre ++ (op3.take p.1).map fun v => cs.getD a [] ++ [v])) p.2.1 p.2.2) (fun p => [(0, .int .i64 x), (3, .isl xf 1 (choV cs)), (4, .int .i64 (i : Nat)), (5, p.2.1), (6, .int .i64 (a : Nat)), (7, .int .i64 (p.1 : Nat))]) (fun p => p.2.2) (fun p => 3 - p.1) (0, q, s) ⟨by simp, by simpa using ho1⟩ (by simp (disch := omega) only [subT, Int.natCast_add, Int.cast_ofNat_Int, go_sem] <;> (repeat' apply And.intro) <;> first | rfl | (congr 1; omega) | assumption) rfl ?_
      clear ho1
      rintro ⟨b, q, s⟩ ⟨hb, ho1⟩ ihB
      dsimp only at hb ho1
      simp (disch := omega) only [go_sem]
      first | refine iteW_dec (fun h3 => ?_) (fun h3 => ?_) | refine iteW_of (fun h3 => ?_) (fun h3 => ?_)
      · have htk2 := take_succ (xs := op3) (i := b) 0 (by omega)
        have hgv := op3_at (b := b) (by omega)
        have hsz : (pre ++ (op3.take b).map fun v => cs.getD a [] ++ [v]).length ≤ 9 * 3 + 6 := by
          rw [List.length_append, List.length_map, List.length_take]; omega
        have hsnoc : choV (pre ++ (op3.take b).map fun v => cs.getD a [] ++ [v]) ++ [.isl false 1 (ints (cs.getD a [] ++ [(b : Int)]))] = choV (pre ++ (op3.take (b + 1)).map fun v => cs.getD a [] ++ [v]) := by
          rw [choV_app, htk2, List.map_append, List.append_assoc, hgv]; rfl
        generalize pre ++ (op3.take b).map (fun v => cs.getD a [] ++ [v]) = pb at *
        simp (disch := omega) only [go_sem]
        generalize cs.getD a [] = c at *
        refine SRun.appL (OwnL.nil (σ0 := s) 1 1) rfl (ints_ok c) (by simp only [ints_len, List.length_nil]; omega) ?_
        intro r1 s1' hr1
        rw [List.nil_append] at hr1
        simp (disch := omega) only [go_sem]
        refine SRun.appL hr1 rfl (ints_ok [(b : Int)]) (by simp only [ints_len, List.length_singleton]; omega) ?_
        intro r2 s2' hr2
        rw [ints_app] at hr2
        obtain ⟨b2, cap, rfl, gb2, hcap, hb2, rfl⟩ := hr2.at (by simp [ints])
        simp (disch := omega) only [go_sem]
        have hsb : σ b2 = none := by
          cases e : σ b2 with
          | none => rfl
          | some x => rw [ho1.get e] at hb2; cases hb2
        refine SRun.appL (ho1.ext hb2) rfl (fun y hy => by rw [List.mem_singleton.1 hy]; simp [V.cells, V.one]) (by rw [choV_len]; simp only [List.length_singleton]; omega) ?_
        intro q3 s3 ho3
        rw [flat_ints] at gb2 ho3
        have ho3' : OwnL (upd σ b2 (flat (ints (c ++ [(b : Int)])))) 1 (choV pb ++ [.msl b2 1 0 (ints (c ++ [(b : Int)])).length cap]) q3 s3 := by rw [flat_ints]; simpa [ints] using ho3
        obtain ⟨s4, hin, ho4⟩ := ownL_settle hsb (ints_ok _) ho3'
        rw [hsnoc] at ho4
        simp (disch := omega) only [go_sem]
        refine W_freezeIn (σ' := s4) (T' := [(0, .int .i64 x), (3, .isl xf 1 (choV cs)), (4, .int .i64 (i : Nat)), (5, q3), (6, .int .i64 (a : Nat)), (7, .int .i64 ((b : Int) + 1))]) hin (frzT_of_sub (by simp (disch := omega) only [subT, Int.natCast_add, Int.cast_ofNat_Int, go_sem] <;> (repeat' apply And.intro) <;> first | rfl | (congr 1; omega) | assumption)) ?_
        exact ihB (b + 1, q3, s4) _ _ ⟨by simp only; omega, ho4⟩ (by simp only; omega) (by simp (disch := omega) only [subT, Int.natCast_add, Int.cast_ofNat_Int, go_sem] <;> (repeat' apply And.intro) <;> first | rfl | (congr 1; omega) | assumption) rfl
      · have hbl : b = 3 := by omega
        subst hbl
        rw [List.take_of_length_le (by rw [hol]; omega), ← hnx] at ho1
        simp (disch := omega) only [go_sem]
        exact ihA (a + 1, q, s) _ _ ⟨by simp only; omega, ho1⟩ (by simp only; omega) (by simp (disch := omega) only [subT, Int.natCast_add, Int.cast_ofNat_Int, go_sem] <;> (repeat' apply And.intro) <;> first | rfl | (congr 1; omega) | assumption) rfl
    · have hal : a = cs.length := by omega
      subst hal
      rw [List.take_length, ← hsucc] at ho1
      simp (disch := omega) only [go_sem]
      refine W_freezeL (σ' := σ) (T' := [(0, .int .i64 x), (3, .isl false 1 (choV (envsP (i + 1)))), (4, .int .i64 ((i : Int) + 1))]) ho1.le (by exact ⟨.refl _, ho1.conv.2, .refl _, trivial⟩) ?_
      exact ih (i + 1, false) _ _ ⟨by simp only; omega, by simp⟩ (by simp only; omega) (by simp (disch := omega) only [subT, Int.natCast_add, Int.cast_ofNat_Int, go_sem] <;> (repeat' apply And.intro) <;> first | rfl | (congr 1; omega) | assumption) rfl
  · have hil : i = x := by omega
    subst hil
    simp (disch := omega) only [go_sem]
    rw [hxf]
    exact W_retR c91_ok rfl ⟨rfl, rfl⟩
end
section
attribute [local irreducible] SRun DS DRun
variable {Γ : St} {σ σ0 : St}
def dwnV (ds : List (List Bool)) : List V := ds.map fun d => .isl d.isEmpty 1 (bools d)
theorem dwnV_len (ds : List (List Bool)) : (dwnV ds).length = ds.length := by simp [dwnV]
section
variable {P : Program} {f : FuncId} {n : Nat} {Q : V → St → Prop} {k : List It} {T : Ts} {g : GI} {l : List GI}
theorem stepW_iaddr_dwn {ex : Bool} {xs : List (List Bool)} {kk : IntKind} {m : Int} (h0 : 0 ≤ m) (h1 : m < xs.length) : stepW P Γ f n Q (.iaddr 1 (.c (.isl ex 1 (dwnV xs))) (.c (.int kk m))) g l k T σ = W P Γ f n Q (.ops l :: k) (putT T g.d (.iptr [.isl (xs.getD m.toNat []).isEmpty 1 (bools (xs.getD m.toNat []))])) σ := stepW_iaddr_map (F := fun d : List Bool => .isl d.isEmpty 1 (bools d)) h0 h1
theorem stepK_iaddr_dwn {K : V → St → Prop} {ex : Bool} {xs : List (List Bool)} {kk : IntKind} {m : Int} (h0 : 0 ≤ m) (h1 : m < xs.length) : stepK (.iaddr 1 (.c (.isl ex 1 (dwnV xs))) (.c (.int kk m))) σ K = K (.iptr [.isl (xs.getD m.toNat []).isEmpty 1 (bools (xs.getD m.toNat []))]) σ := stepK_iaddr_map (F := fun d : List Bool => .isl d.isEmpty 1 (bools d)) h0 h1
end
attribute [go_sem] stepW_iaddr_dwn stepK_iaddr_dwn dwnV_len
def bitP (L c i : Nat) : Bool := decide (c / 2 ^ (L - 1 - i) % 2 = 1)
theorem dnP_eq (L c : Nat) : dnP L c = (List.range L).map (bitP L c) := rfl
def seenP (L m c : Nat) : List (List Bool) := (List.range m).flatMap (downsAt L) ++ ((List.range c).map (dnP L)).filter fun d => decide (d.count true = m)
theorem seen_zero (L m : Nat) : seenP L m 0 = (List.range m).flatMap (downsAt L) := by simp [seenP]
theorem seen_all (L m : Nat) : seenP L m (2 ^ L) = (List.range (m + 1)).flatMap (downsAt L) := by
  rw [List.range_succ, List.flatMap_append]; simp [seenP, downsAt]
theorem seen_succ (L m c : Nat) : seenP L m (c + 1) = seenP L m c ++ if (dnP L c).count true = m then [dnP L c] else [] := by
  unfold seenP
  rw [List.range_succ, List.map_append, List.filter_append, ← List.append_assoc]
  congr 1
  by_cases h : (dnP L c).count true = m
  · simp [h]
  · simp [h]
theorem seen_len (L m c : Nat) : (seenP L m c).length ≤ m * 2 ^ L + c := by
  unfold seenP
  rw [List.length_append]
  have h1 : ((List.range m).flatMap (downsAt L)).length ≤ m * 2 ^ L := by
    induction m with
    | zero => simp
    | succ m ih =>
      rw [List.range_succ, List.flatMap_append, List.length_append, Nat.succ_mul]
      have : (downsAt L m).length ≤ 2 ^ L := by
        unfold downsAt
        refine Nat.le_trans (List.length_filter_le _ _) ?_
        simp
      simp only [List.flatMap_cons, List.flatMap_nil, List.append_nil]
      omega
  have h2 : (((List.range c).map (dnP L)).filter fun d => decide (d.count true = m)).length ≤ c := by
    refine Nat.le_trans (List.length_filter_le _ _) ?_
    simp
  omega
theorem and_one : ∀ z : Nat, z < 64 → bitsV .and .i64 (z : Int) 1 = ((z % 2 : Nat) : Int) := by decide
theorem bit_eq {L c i : Nat} (hL : L ≤ 6) (hc : c < 64) (hi : i < L) : decide (bitsV .and .i64 ((c : Int).fdiv (2 ^ min ((L : Int) - 1 - i).toNat 64)) 1 = 1) = bitP L c i := by
  have e1 : min ((L : Int) - 1 - i).toNat 64 = L - 1 - i := by omega
  have e2 : (c : Int).fdiv (2 ^ (L - 1 - i)) = ((c / 2 ^ (L - 1 - i) : Nat) : Int) := by
    rw [Int.ofNat_fdiv, Int.natCast_pow]; rfl
  have e3 : c / 2 ^ (L - 1 - i) < 64 := Nat.lt_of_le_of_lt (Nat.div_le_self _ _) hc
  rw [e1, e2, and_one _ e3]
  unfold bitP
  by_cases h : c / 2 ^ (L - 1 - i) % 2 = 1
  · rw [decide_eq_true h, decide_eq_true (by omega)]
  · rw [decide_eq_false h, decide_eq_false (by omega)]
set_option maxHeartbeats 1000000 in
theorem l08Downs_ok {L k : Nat} (hL : L ≤ 6) (hk : k ≤ 2) : Ret Tryz.prog Γ 90 [.int .i64 L, .int .i64 k] σ (.isl false 1 (dwnV (downsP L k))) σ := by
  have hP : 2 ^ L ≤ 64 ∧ 1 ≤ 2 ^ L := by
    rcases (by omega : L = 0 ∨ L = 1 ∨ L = 2 ∨ L = 3 ∨ L = 4 ∨ L = 5 ∨ L = 6) with h | h | h | h | h | h | h <;> subst h <;> decide
  have hsh : IntKind.i64.wrap (1 * 2 ^ min L 64) = ((2 ^ L : Nat) : Int) := by
    rcases (by omega : L = 0 ∨ L = 1 ∨ L = 2 ∨ L = 3 ∨ L = 4 ∨ L = 5 ∨ L = 6) with h | h | h | h | h | h | h <;> subst h <;> rfl
  refine ret_of c90_ok rfl ?_
  simp (disch := omega) only [c90, go_sem]
  refine W_loopC (α := Nat × V × St) (fun p => p.1 ≤ k + 1 ∧ OwnL σ 1 (dwnV ((List.range p.1).flatMap (downsAt L))) p.2.1 p.2.2) (fun p => [(0, .int .i64 L), (1, .int .i64 k), (5, p.2.1), (6, .int .i64 (p.1 : Nat))]) (fun p => p.2.2) (fun p => k + 1 - p.1) (0, _, _) ⟨by simp, OwnL.nil _ 1⟩ (by simp (disch := omega) only [subT, Int.natCast_add, Int.cast_ofNat_Int, go_sem] <;> (repeat' apply And.intro) <;> first | rfl | (congr 1; omega) | assumption) rfl ?_
  rintro ⟨m, q, s⟩ ⟨hm, ho1⟩ ih
  dsimp only at hm ho1
  simp (disch := omega) only [go_sem]
  first | refine iteW_dec (fun h1 => ?_) (fun h1 => ?_) | refine iteW_of (fun h1 => ?_) (fun h1 => ?_)
  · rw [← seen_zero] at ho1
    simp (disch := omega) only [go_sem]
    refine W_loopC (α := Nat × V × St) (fun p => p.1 ≤ 2 ^ L ∧ OwnL σ 1 (dwnV (seenP L m p.1)) p.2.1 p.2.2) (fun p => [(0, .int .i64 L), (1, .int .i64 k), (5, p.2.1), (6, .int .i64 (m : Nat)), (7, .int .i64 (p.1 : Nat))]) (fun p => p.2.2) (fun p => 2 ^ L - p.1) (0, q, s) ⟨by simp, ho1⟩ (by simp (disch := omega) only [subT, Int.natCast_add, Int.cast_ofNat_Int, go_sem] <;> (repeat' apply And.intro) <;> first | rfl | (congr 1; omega) | assumption) rfl ?_
    clear ho1
    rintro ⟨c, q, s⟩ ⟨hc, ho1⟩ ih2
    dsimp only at hc ho1
    simp (disch := omega) only [go_sem]
    rw [hsh]
    by_cases h2 : c < 2 ^ L
    · have d2 : decide ((c : Int) < ((2 ^ L : Nat) : Int)) = true := decide_eq_true (by omega)
      simp (disch := omega) only [d2, go_sem]
      refine W_loopC (α := Nat × V × St) (fun p => p.1 ≤ L ∧ OwnL s 1 (bools ((List.range p.1).map (bitP L c))) p.2.1 p.2.2 ∧ (p.1 = 0 → p.2.1 = .isl true 1 [] ∧ p.2.2 = s)) (fun p => [(0, .int .i64 L), (1, .int .i64 k), (5, q), (6, .int .i64 (m : Nat)), (7, .int .i64 (c : Nat)), (8, p.2.1), (9, .int .i64 (((List.range p.1).map (bitP L c)).count true : Nat)), (10, .int .i64 (p.1 : Nat))]) (fun p => p.2.2) (fun p => L - p.1) (0, .isl true 1 [], s) ⟨by simp, OwnL.nil _ 1, fun _ => ⟨rfl, rfl⟩⟩ (by simp (disch := omega) only [subT, Int.natCast_add, Int.cast_ofNat_Int, go_sem] <;> (repeat' apply And.intro) <;> first | rfl | (congr 1; omega) | assumption) rfl ?_
      rintro ⟨i, q8, s8⟩ ⟨hi, ho8, hz8⟩ ih3
      dsimp only at hi ho8 hz8
      simp (disch := omega) only [go_sem]
      first | refine iteW_dec (fun h3 => ?_) (fun h3 => ?_) | refine iteW_of (fun h3 => ?_) (fun h3 => ?_)
      · have hbe := bit_eq (L := L) (c := c) (i := i) hL (by omega) (by omega)
        have hsn : (List.range (i + 1)).map (bitP L c) = (List.range i).map (bitP L c) ++ [bitP L c i] := by rw [List.range_succ, List.map_append]; rfl
        have hcl := List.count_le_length (a := true) (l := (List.range i).map (bitP L c))
        rw [List.length_map, List.length_range] at hcl
        have hml : ((List.range i).map (bitP L c)).length = i := by simp
        simp (disch := omega) only [hbe, go_sem]
        generalize hpr : (List.range i).map (bitP L c) = pr at *
        refine SRun.appL ho8 rfl (bool1_ok (bitP L c i)) (by rw [bools_len, hml, List.length_singleton]; omega) ?_
        intro q9 s9 ho9
        rw [bools_app, ← hsn] at ho9
        simp (disch := omega) only [go_sem]
        cases hbi : bitP L c i with
        | true =>
          rw [hbi] at hsn
          have hct : ((List.range (i + 1)).map (bitP L c)).count true = pr.count true + 1 := by rw [hsn, List.count_append]; rfl
          simp (disch := omega) only [go_sem]
          refine ih3 (i + 1, q9, s9) _ _ ⟨by simp only; omega, ho9, fun h => by simp only at h; omega⟩ (by simp only; omega) ?_ rfl
          simp only [hct]
          exact (by simp (disch := omega) only [subT, Int.natCast_add, Int.cast_ofNat_Int, go_sem] <;> (repeat' apply And.intro) <;> first | rfl | (congr 1; omega) | assumption)
        | false =>
          rw [hbi] at hsn
          have hct : ((List.range (i + 1)).map (bitP L c)).count true = pr.count true := by rw [hsn, List.count_append]; rfl
          simp (disch := omega) only [go_sem]
          refine ih3 (i + 1, q9, s9) _ _ ⟨by simp only; omega, ho9, fun h => by simp only at h; omega⟩ (by simp only; omega) ?_ rfl
          simp only [hct]
          exact (by simp (disch := omega) only [subT, Int.natCast_add, Int.cast_ofNat_Int, go_sem] <;> (repeat' apply And.intro) <;> first | rfl | (congr 1; omega) | assumption)
      · have hiL : i = L := by omega
        subst hiL
        rw [← dnP_eq] at ho8
        have hss := seen_succ i m c
        have hsl := seen_len i m c
        have hsl2 : (seenP i m c).length ≤ 1000 := by
          have h5 : m * 2 ^ i ≤ 2 * 64 := Nat.mul_le_mul (by omega) hP.1
          omega
        have hdl := dn_len i c
        rw [← dnP_eq]
        by_cases h5 : (dnP i c).count true = m
        · have d5 : decide ((((dnP i c).count true : Nat) : Int) = m) = true := decide_eq_true (by omega)
          rw [if_pos h5] at hss
          by_cases hi0 : i = 0
          · obtain ⟨rfl, rfl⟩ := hz8 hi0
            have hd0 : dnP i c = [] := List.eq_nil_of_length_eq_zero (by rw [hdl]; exact hi0)
            have hsnoc : dwnV (seenP i m c) ++ [.isl true 1 []] = dwnV (seenP i m (c + 1)) := by rw [hss, hd0]; simp [dwnV, bools]
            simp (disch := omega) only [d5, go_sem]
            refine SRun.appL ho1 rfl (fun y hy => by rw [List.mem_singleton.1 hy]; simp [V.cells, V.one]) (by rw [dwnV_len]; simp only [List.length_singleton]; omega) ?_
            intro q3 s3 ho3
            rw [hsnoc] at ho3
            simp (disch := omega) only [go_sem]
            exact ih2 (c + 1, q3, s3) _ _ ⟨by simp only; omega, ho3⟩ (by simp only; omega) (by simp (disch := omega) only [subT, Int.natCast_add, Int.cast_ofNat_Int, go_sem] <;> (repeat' apply And.intro) <;> first | rfl | (congr 1; omega) | assumption) rfl
          · have hsnoc : dwnV (seenP i m c) ++ [.isl false 1 (bools (dnP i c))] = dwnV (seenP i m (c + 1)) := by
              have he : (dnP i c).isEmpty = false := by rw [List.isEmpty_eq_false_iff]; exact fun h => hi0 (by rw [← hdl, h]; rfl)
              rw [hss]; simp [dwnV, he]
            obtain ⟨b2, cap, rfl, gb2, hcap, hb2, rfl⟩ := ho8.at (by rw [ne_eq, List.eq_nil_iff_length_eq_zero, bools_len, hdl]; exact hi0)
            have hsb : σ b2 = none := by
              cases e : σ b2 with
              | none => rfl
              | some x => rw [ho1.get e] at hb2; cases hb2
            simp (disch := omega) only [d5, go_sem]
            refine SRun.appL (ho1.ext hb2) rfl (fun y hy => by rw [List.mem_singleton.1 hy]; simp [V.cells, V.one]) (by rw [dwnV_len]; simp only [List.length_singleton]; omega) ?_
            intro q3 s3 ho3
            have ho3' : OwnL (upd σ b2 (flat (bools (dnP i c)))) 1 (dwnV (seenP i m c) ++ [.msl b2 1 0 (bools (dnP i c)).length cap]) q3 s3 := by rw [bools_len]; simpa [bools_len] using ho3
            obtain ⟨s4, hin, ho4⟩ := ownL_settle hsb (boolsOk _) ho3'
            rw [hsnoc] at ho4
            simp (disch := omega) only [go_sem]
            refine W_freezeIn (σ' := s4) (T' := [(0, .int .i64 i), (1, .int .i64 k), (5, q3), (6, .int .i64 (m : Nat)), (7, .int .i64 ((c : Int) + 1))]) hin (frzT_of_sub (by simp (disch := omega) only [subT, Int.natCast_add, Int.cast_ofNat_Int, go_sem] <;> (repeat' apply And.intro) <;> first | rfl | (congr 1; omega) | assumption)) ?_
            exact ih2 (c + 1, q3, s4) _ _ ⟨by simp only; omega, ho4⟩ (by simp only; omega) (by simp (disch := omega) only [subT, Int.natCast_add, Int.cast_ofNat_Int, go_sem] <;> (repeat' apply And.intro) <;> first | rfl | (congr 1; omega) | assumption) rfl
        · have d5 : decide ((((dnP i c).count true : Nat) : Int) = m) = false := decide_eq_false (by omega)
          rw [if_neg h5, List.append_nil] at hss
          rw [← hss] at ho1
          simp (disch := omega) only [d5, go_sem]
          refine W_freezeL (σ' := s) (T' := [(0, .int .i64 i), (1, .int .i64 k), (5, q), (6, .int .i64 (m : Nat)), (7, .int .i64 ((c : Int) + 1))]) ho8.le (frzT_of_sub (by simp (disch := omega) only [subT, Int.natCast_add, Int.cast_ofNat_Int, go_sem] <;> (repeat' apply And.intro) <;> first | rfl | (congr 1; omega) | assumption)) ?_
          exact ih2 (c + 1, q, s) _ _ ⟨by simp only; omega, ho1⟩ (by simp only; omega) (by simp (disch := omega) only [subT, Int.natCast_add, Int.cast_ofNat_Int, go_sem] <;> (repeat' apply And.intro) <;> first | rfl | (congr 1; omega) | assumption) rfl
    · have d2 : decide ((c : Int) < ((2 ^ L : Nat) : Int)) = false := decide_eq_false (by omega)
      have hcL : c = 2 ^ L := by omega
      subst hcL
      rw [seen_all] at ho1
      simp (disch := omega) only [d2, go_sem]
      exact ih (m + 1, q, s) _ _ ⟨by simp only; omega, ho1⟩ (by simp only; omega) (by simp (disch := omega) only [subT, Int.natCast_add, Int.cast_ofNat_Int, go_sem] <;> (repeat' apply And.intro) <;> first | rfl | (congr 1; omega) | assumption) rfl
  · have hmk : m = k + 1 := by omega
    subst hmk
    simp (disch := omega) only [go_sem]
    exact W_retC c90_ok rfl ho1.conv ⟨rfl, rfl⟩
end
section
attribute [local irreducible] SRun DS DRun
variable {Γ : St} {σ σ0 : St}
def badB (n : Net) (kd f p w : Int) (rs : List Rt) (i : Nat) : Bool := (decide (p < 0) || decide (p = (i : Int))) && !satP kd w (walkP n rs f i)
def failP (n : Net) (kd f p w : Int) (rs : List Rt) : Option Int := ((List.range 16).find? (badB n kd f p w rs)).map fun (i : Nat) => (i : Int)
theorem fail_at {n : Net} {kd f p w : Int} {rs : List Rt} {i : Nat} (hi : i < 16) (hno : ∀ j : Nat, j < i → badB n kd f p w rs j = false) (h : badB n kd f p w rs i = true) : failP n kd f p w rs = some (i : Int) := by
  unfold failP
  rw [List.find?_range_eq_some.2 ⟨h, List.mem_range.2 hi, fun j hj => by rw [hno j hj]; rfl⟩]
  rfl
theorem fail_none {n : Net} {kd f p w : Int} {rs : List Rt} (hno : ∀ j : Nat, j < 16 → badB n kd f p w rs j = false) : failP n kd f p w rs = none := by
  unfold failP
  rw [List.find?_eq_none.2 fun j hj => by rw [hno j (List.mem_range.1 hj)]; simp]
  rfl
set_option maxHeartbeats 1000000 in
theorem l08Fault_ok {n : Net} {kd f p w : Int} {ex : Bool} {rs : List Rt} (hn : NetR n) (hl : rs.length = n.routers.length) (hv : ViasIn rs) (hi3 : ∀ v : Int, -3 ≤ (rtAt rs v).via) (hf : 0 ≤ f ∧ f < n.routers.length) (hpl : ∀ port : Int, (walkP n rs f port).2.length ≤ 1000000000000) :
    Ret Tryz.prog Γ 93 [netV n, .agg (propC kd f p w), .isl ex 4 (rtsV rs)] σ (.int .i64 ((failP n kd f p w rs).getD (-1))) σ := by
  have r4 := hn.r4
  have f6 := hn.f6
  have hlen : (netC n).take 6 = netC n := rfl
  have hlen2 : (netC n).length = 6 := rfl
  have hpt : (propC kd f p w).take 4 = propC kd f p w := rfl
  have hpl4 : (propC kd f p w).length = 4 := rfl
  have p1 : (propC kd f p w)[1]? = some (.int .i64 f) := rfl
  have p2 : (propC kd f p w)[2]? = some (.int .i64 p) := rfl
  refine ret_of c93_ok rfl ?_
  simp (disch := omega) only [c93, netV, go_sem]
  refine SRun.boxR (net_one n) ?_
  intro b3 hb3
  simp (disch := omega) only [go_sem]
  refine SRun.boxR (prop_one kd f p w) ?_
  intro b4 hb4
  have n4 := upd_none.1 hb4
  have g4 := upd_same (upd σ b3 (netC n)) b4 (propC kd f p w)
  have g3 : upd (upd σ b3 (netC n)) b4 (propC kd f p w) b3 = some (netC n) := by rw [upd_ne _ _ n4.1.symm, upd_same]
  have hσ := le_two hb3 n4.2 (netC n) (propC kd f p w)
  simp (disch := omega) only [go_sem]
  generalize upd (upd σ b3 (netC n)) b4 (propC kd f p w) = s1 at *
  refine W_loopC (α := Nat) (fun i => i ≤ 16 ∧ ∀ j : Nat, j < i → badB n kd f p w rs j = false) (fun i => [(2, .isl ex 4 (rtsV rs)), (3, .ptr b3 0), (4, .ptr b4 0), (7, .int .i64 (i : Nat))]) (fun _ => s1) (fun i => 16 - i) 0 ⟨by omega, fun j hj => by omega⟩ (by simp (disch := omega) only [subT, Int.natCast_add, Int.cast_ofNat_Int, go_sem] <;> (repeat' apply And.intro) <;> first | rfl | (congr 1; omega) | assumption) rfl ?_
  rintro i ⟨hi, hno⟩ ih
  simp (disch := omega) only [go_sem]
  first | refine iteW_dec (fun h1 => ?_) (fun h1 => ?_) | refine iteW_of (fun h1 => ?_) (fun h1 => ?_)
  · have hW := fun Γ σ => walkR (Γ := Γ) (σ := σ) (n := n) (ex := ex) (rs := rs) (from_ := f) (port := (i : Int)) (by omega) (by omega) hv hi3 (by omega)
    have hbd : badB n kd f p w rs i = ((decide (p < 0) || decide (p = (i : Int))) && !satP kd w (walkP n rs f i)) := rfl
    simp (disch := omega) only [go_sem]
    refine W_drawW ?_
    have hpli := hpl i
    generalize hwp : walkP n rs f i = wk at *
    obtain ⟨o, path⟩ := wk
    have hwv : walkV (o, path) = .agg [.int .i64 o, .isl false 1 (ints path)] := rfl
    have hS := fun Γ σ => l08Satisfied_ok (Γ := Γ) (σ := σ) (kd := kd) (f := f) (p := p) (way := w) (o := o) (ex := false) (path := path) hpli
    have hnx : badB n kd f p w rs i = false → ∀ j : Nat, j < i + 1 → badB n kd f p w rs j = false := fun h j hj => by
      by_cases e : j = i
      · subst e; exact h
      · exact hno j (by omega)
    generalize hq : satP kd w (o, path) = sq at *
    by_cases c1 : p < 0 ∨ p = (i : Int)
    · have hor : (decide (p < 0) || decide (p = (i : Int))) = true := by simpa using c1
      rw [hor, Bool.true_and] at hbd
      have hd : (decide (p < 0) = true) ∨ (decide (p < 0) = false ∧ decide (p = (i : Int)) = true) := by
        by_cases h : p < 0
        · exact .inl (decide_eq_true h)
        · exact .inr ⟨decide_eq_false h, decide_eq_true (by omega)⟩
      rcases hd with d1 | ⟨d1, d2⟩
      case' inl => simp (disch := omega) only [g4, p2, d1, go_sem]
      case' inr => simp (disch := omega) only [g4, p2, d1, d2, go_sem]
      all_goals
        refine DRun.mixE rfl ?_
        simp (disch := omega) only [g4, g3, hlen, hlen2, hpt, hpl4, p1, go_sem]
        refine DS.callB (hW _ _) ⟨[], rfl, rfl⟩ rfl rfl ?_
        rw [hwv]
        simp (disch := omega) only [go_sem]
        refine DRun.callG (hS _ _) ⟨[], rfl, rfl⟩ rfl ?_
        rintro _ _ ⟨rfl, hs⟩
        obtain rfl := hs.symm
        cases sq with
        | true =>
          simp (disch := omega) only [go_sem]
          exact ih (i + 1) _ _ ⟨by omega, hnx hbd⟩ (by omega) (by simp (disch := omega) only [subT, Int.natCast_add, Int.cast_ofNat_Int, go_sem] <;> (repeat' apply And.intro) <;> first | rfl | (congr 1; omega) | assumption) rfl
        | false =>
          simp (disch := omega) only [go_sem]
          rw [fail_at (by omega) hno hbd]
          exact W_retC c93_ok rfl (Conv.drop _ hσ) ⟨rfl, rfl⟩
    · have hor : (decide (p < 0) || decide (p = (i : Int))) = false := by
        rw [decide_eq_false (fun h => c1 (.inl h)), decide_eq_false (fun h => c1 (.inr h))]; rfl
      rw [hor, Bool.false_and] at hbd
      have d1 : decide (p < 0) = false := decide_eq_false (fun h => c1 (.inl h))
      have d2 : decide (p = (i : Int)) = false := decide_eq_false (fun h => c1 (.inr h))
      simp (disch := omega) only [g4, p2, d1, d2, go_sem]
      refine DRun.mixE rfl ?_
      simp (disch := omega) only [go_sem]
      refine DS.skipG rfl rfl ?_
      simp (disch := omega) only [go_sem]
      refine DRun.skipG rfl ?_
      simp (disch := omega) only [go_sem]
      exact ih (i + 1) _ _ ⟨by omega, hnx hbd⟩ (by omega) (by simp (disch := omega) only [subT, Int.natCast_add, Int.cast_ofNat_Int, go_sem] <;> (repeat' apply And.intro) <;> first | rfl | (congr 1; omega) | assumption) rfl
  · have hi16 : i = 16 := by omega
    subst hi16
    rw [fail_none hno]
    simp (disch := omega) only [go_sem]
    exact W_retC c93_ok rfl (Conv.drop _ hσ) ⟨rfl, rfl⟩
end
section
attribute [local irreducible] SRun DS DRun
variable {Γ : St} {σ σ0 : St}
def vdC (v : Vd) : List V := [.bool v.holds, .int .i64 v.states, .isl false 1 (bools v.down), .isl false 1 (ints v.env), .isl false 1 (ints v.vias), .int .i64 v.port]
def vdV (v : Vd) : V := .agg (vdC v)
theorem vd_one (v : Vd) : ∀ c ∈ vdC v, c.one = true := by
  intro c hc
  simp only [vdC, List.mem_cons, List.not_mem_nil, or_false] at hc
  rcases hc with rfl | rfl | rfl | rfl | rfl | rfl <;> rfl
/-- What is left of one set of links, from an announcement on; of one announcement, from a state on. -/
def remE (n : Net) (d : List Bool) (es : List (List Int)) : List (List Bool × List Int × List Rt) := es.flatMap fun e => (statesP n e d).map fun rs => (d, e, rs)
theorem items_cons (n : Net) (d : List Bool) (ds : List (List Bool)) : itemsP n (d :: ds) = remE n d (envsP n.externals.length) ++ itemsP n ds := by simp [itemsP, remE]
theorem remE_cons (n : Net) (d : List Bool) (e : List Int) (es : List (List Int)) : remE n d (e :: es) = ((statesP n e d).map fun rs => (d, e, rs)) ++ remE n d es := by simp [remE]
theorem verGo_some {fail : List Rt → Option Int} {d : List Bool} {e : List Int} {rs : List Rt} {l : List (List Bool × List Int × List Rt)} {c port : Int} (h : fail rs = some port) : verGo fail ((d, e, rs) :: l) c = ⟨false, c + 1, d, e, rs.map (·.via), port⟩ := by
  show (match fail rs with | some port => _ | none => _) = _
  rw [h]
theorem verGo_none {fail : List Rt → Option Int} {d : List Bool} {e : List Int} {rs : List Rt} {l : List (List Bool × List Int × List Rt)} {c : Int} (h : fail rs = none) : verGo fail ((d, e, rs) :: l) c = verGo fail l (c + 1) := by
  show (match fail rs with | some port => _ | none => _) = _
  rw [h]
theorem statesP_len2 {n : Net} {env : List Int} {down : List Bool} (hn : NetR n) : (statesP n env down).length ≤ 1296 := by
  have h1 := List.length_filterMap_le (stateO n env down) (choiceP n env down)
  have h2 := choS_bound (env := env) (down := down) hn (m := n.routers.length) hn.r4
  have h3 : choS n env down n.routers.length = choiceP n env down := rfl
  rw [h3] at h2
  unfold statesP; omega
theorem walk_len {n : Net} {down : List Bool} {rs : List Rt} (hst : StateR n down rs) {f : Int} (hf : 0 ≤ f ∧ f < n.routers.length) (hr : n.routers.length ≤ 4) (port : Int) : (walkP n rs f port).2.length ≤ 1000000000000 := by
  have hl := hst.len
  obtain ⟨fr, rfl⟩ : ∃ k : Nat, f = k := ⟨f.toNat, by omega⟩
  obtain ⟨w1, w2, w3, w4, w5, lv, w6, w7, w8⟩ := walkGo_ok hst (port := port) rs.length fr [(fr : Int)] (by omega) (hst.ends fr (by omega)) (by simp) (by simp) (fun x hx => by rw [List.mem_singleton.1 hx]; omega) (by simp)
  have hwd : walkP n rs fr port = walkGo n rs port rs.length fr [(fr : Int)] := rfl
  rw [hwd]
  rw [List.length_singleton] at w4
  omega
theorem state_w {n : Net} {down : List Bool} {rs : List Rt} (hn : NetR n) (h : StateR n down rs) : ViasIn rs ∧ ∀ v : Int, -3 ≤ (rtAt rs v).via := by
  have r1 := hn.r1
  have hl := h.len
  have hdf : ∀ v : Int, ¬ v.toNat < rs.length → rtAt rs v = default := fun v hv => by simp [rtAt, List.getD, List.getElem?_eq_none (by omega : rs.length ≤ v.toNat)]
  constructor
  · intro v
    by_cases hv : v.toNat < rs.length
    · have := (h.ok _ hv).via.2
      unfold rtAt; omega
    · rw [hdf v hv]; show (0 : Int) < _; omega
  · intro v
    by_cases hv : v.toNat < rs.length
    · have := (h.ok _ hv).via.1
      unfold rtAt; omega
    · rw [hdf v hv]; show (-3 : Int) ≤ 0; omega
theorem viasR {ex : Bool} {rs : List Rt} (hl : rs.length ≤ 1000000000) : Ret Tryz.prog Γ 94 [.isl ex 4 (rtsV rs)] σ (.isl false 1 (ints (rs.map (·.via)))) σ :=
  ACalls.conv (l08Vias_own hl) fun q s ho => ⟨_, σ, ho.conv, rfl, rfl⟩
theorem fail_ge {n : Net} {kd f p w : Int} {rs : List Rt} {port : Int} (h : failP n kd f p w rs = some port) : 0 ≤ port := by
  unfold failP at h
  rw [Option.map_eq_some_iff] at h
  obtain ⟨i, _, rfl⟩ := h
  omega
set_option maxHeartbeats 2000000 in
theorem l08Verify_ok {n : Net} {kd f p w : Int} {k : Nat} (hN : NetLen n) (hP : propB n kd f p w = true) (hk : k ≤ 2) :
    Ret Tryz.prog Γ 47 [netV n, .agg (propC kd f p w), .int .i64 k] σ (vdV (verP n (failP n kd f p w) k)) σ := by
  have hB : netB n = true := by
    unfold propB at hP
    simp only [Bool.and_eq_true] at hP
    exact hP.1.1.1.1
  have hn := netR_of hB
  have r1 := hn.r1
  have r4 := hn.r4
  have l6 := hn.l6
  have x2 := hn.x2
  have hlen : (netC n).take 6 = netC n := rfl
  have hlen2 : (netC n).length = 6 := rfl
  have e1 : (netC n)[1]? = some (.isl false 3 (linksV n.links)) := rfl
  have e3 : (netC n)[3]? = some (.isl false 1 (ints n.externals)) := rfl
  refine ret_of c47_ok rfl ?_
  simp (disch := omega) only [c47, netV, go_sem]
  refine SRun.boxR (net_one n) ?_
  intro b3 hb3
  simp (disch := omega) only [go_sem]
  refine SRun.boxR (prop_one kd f p w) ?_
  intro b4 hb4
  have n4 := upd_none.1 hb4
  have g4 := upd_same (upd σ b3 (netC n)) b4 (propC kd f p w)
  have g3 : upd (upd σ b3 (netC n)) b4 (propC kd f p w) b3 = some (netC n) := by rw [upd_ne _ _ n4.1.symm, upd_same]
  have hσ := le_two hb3 n4.2 (netC n) (propC kd f p w)
  simp (disch := omega) only [go_sem]
  generalize upd (upd σ b3 (netC n)) b4 (propC kd f p w) = s1 at *
  refine SRun.allocR ?_
  intro b6 hb6
  simp (disch := omega) only [go_sem]
  refine SRun.allocR ?_
  intro b7 hb7
  have n7 := upd_none.1 hb7
  have g7 := fun z => upd_same (upd s1 b6 [V.bool false, .int .i64 0, .isl true 0 [], .isl true 0 [], .isl true 0 [], .int .i64 0]) b7 z
  simp (disch := omega) only [g7, go_sem]
  obtain ⟨S, hS⟩ : ∃ S : Int → St, S = fun c => upd (upd s1 b6 [V.bool false, .int .i64 0, .isl true 0 [], .isl true 0 [], .isl true 0 [], .int .i64 0]) b7 [.bool true, .int .i64 c, .isl true 0 [], .isl true 0 [], .isl true 0 [], .int .i64 0] := ⟨_, rfl⟩
  have e67 : b6 ≠ b7 := n7.1.symm
  have S0 : upd (upd s1 b6 [V.bool false, .int .i64 0, .isl true 0 [], .isl true 0 [], .isl true 0 [], .int .i64 0]) b7 [.bool true, .int .i64 0, .isl true 0 [], .isl true 0 [], .isl true 0 [], .int .i64 0] = S 0 := by rw [hS]
  have Sle : ∀ c d x, s1 d = some x → S c d = some x := fun c d x h => by rw [hS]; exact le_two hb6 n7.2 _ _ _ _ h
  have S7 : ∀ c, S c b7 = some [.bool true, .int .i64 c, .isl true 0 [], .isl true 0 [], .isl true 0 [], .int .i64 0] := fun c => by rw [hS]; exact upd_same _ _ _
  have S6 : ∀ c, S c b6 = some [.bool false, .int .i64 0, .isl true 0 [], .isl true 0 [], .isl true 0 [], .int .i64 0] := fun c => by rw [hS]; simp only; rw [upd_ne _ _ e67, upd_same]
  have Su : ∀ c c', upd (S c) b7 [.bool true, .int .i64 c', .isl true 0 [], .isl true 0 [], .isl true 0 [], .int .i64 0] = S c' := fun c c' => by rw [hS]; simp only; rw [upd_upd]
  have S3 : ∀ c, S c b3 = some (netC n) := fun c => Sle c _ _ g3
  have S4 : ∀ c, S c b4 = some (propC kd f p w) := fun c => Sle c _ _ g4
  have hσS : ∀ c d x, σ d = some x → S c d = some x := fun c d x h => Sle c _ _ (hσ _ _ h)
  rw [S0]
  clear S0 g7
  simp (disch := omega) only [S3, e1, go_sem]
  refine SRun.callR (l08Downs_ok (L := n.links.length) (k := k) l6 hk) ⟨[], rfl, rfl⟩ rfl ?_
  simp (disch := omega) only [S3, e3, go_sem]
  refine SRun.callR (l08Envs_ok (x := n.externals.length) x2) ⟨[], rfl, rfl⟩ rfl ?_
  have hV : verP n (failP n kd f p w) k = verGo (failP n kd f p w) (itemsP n (downsP n.links.length k)) 0 := rfl
  have hdl := fun d (h : d ∈ downsP n.links.length k) => downs_len h
  have hel := fun e (h : e ∈ envsP n.externals.length) => envs_fine h
  have hic := items_cons n
  have hdb : (downsP n.links.length k).length ≤ 1000 := by
    have h1 := seen_len n.links.length (k + 1) 0
    rw [seen_zero] at h1
    have h2 : 2 ^ n.links.length ≤ 64 := by
      have : 2 ^ n.links.length ≤ 2 ^ 6 := Nat.pow_le_pow_right (by decide) l6
      omega
    have h3 : (k + 1) * 2 ^ n.links.length ≤ 3 * 64 := Nat.mul_le_mul (by omega) h2
    unfold downsP; omega
  have heb : (envsP n.externals.length).length ≤ 9 := by
    rw [envs_bound]
    have : 3 ^ n.externals.length ≤ 3 ^ 2 := Nat.pow_le_pow_right (by decide) x2
    omega
  generalize hxe : decide (n.externals.length = 0) = xe at *
  generalize downsP n.links.length k = ds at *
  generalize envsP n.externals.length = es at *
  generalize verP n (failP n kd f p w) k = VV at *
  simp (disch := omega) only [go_sem]
  refine W_loopC (α := Nat × Int) (fun q => q.1 ≤ ds.length ∧ (0 ≤ q.2 ∧ q.2 ≤ 12000 * (q.1 : Nat)) ∧ VV = verGo (failP n kd f p w) (itemsP n (ds.drop q.1)) q.2) (fun q => [(3, .ptr b3 0), (4, .ptr b4 0), (6, .ptr b6 0), (7, .ptr b7 0), (8, .isl false 1 (dwnV ds)), (9, .isl xe 1 (choV es)), (10, .int .i64 (q.1 : Nat))]) (fun q => S q.2) (fun q => ds.length - q.1) (0, 0) ⟨by simp, by simp, by simpa using hV⟩ (by simp (disch := omega) only [subT, Int.natCast_add, Int.cast_ofNat_Int, go_sem] <;> (repeat' apply And.intro) <;> first | rfl | (congr 1; omega) | assumption) rfl ?_
  rintro ⟨a, cnt⟩ ⟨ha, hcn, hv⟩ ih
  dsimp only at ha hcn hv
  simp (disch := omega) only [go_sem]
  first | refine iteW_dec (fun h1 => ?_) (fun h1 => ?_) | refine iteW_of (fun h1 => ?_) (fun h1 => ?_)
  · have ha' : a < ds.length := by omega
    have hd1 := hdl _ (getD_mem [] ha')
    rw [drop_cons [] ha', hic] at hv
    generalize hgd : ds.getD a [] = d at *
    simp (disch := omega) only [go_sem]
    refine W_loopC (α := Nat × Int) (fun q => q.1 ≤ es.length ∧ (0 ≤ q.2 ∧ q.2 ≤ 12000 * (a : Nat) + 1296 * (q.1 : Nat)) ∧ VV = verGo (failP n kd f p w) (remE n d (es.drop q.1) ++ itemsP n (ds.drop (a + 1))) q.2) (fun q => [(3, .ptr b3 0), (4, .ptr b4 0), (6, .ptr b6 0), (7, .ptr b7 0), (8, .isl false 1 (dwnV ds)), (9, .isl xe 1 (choV es)), (10, .int .i64 (a : Nat)), (11, .int .i64 (q.1 : Nat))]) (fun q => S q.2) (fun q => es.length - q.1) (0, cnt) ⟨by simp, by simp only; omega, by simpa using hv⟩ (by simp (disch := omega) only [subT, Int.natCast_add, Int.cast_ofNat_Int, go_sem] <;> (repeat' apply And.intro) <;> first | rfl | (congr 1; omega) | assumption) rfl ?_
    clear hv hcn
    rintro ⟨b, cnt⟩ ⟨hb, hcn, hv⟩ ihb
    dsimp only at hb hcn hv
    simp (disch := omega) only [go_sem]
    first | refine iteW_dec (fun h2 => ?_) (fun h2 => ?_) | refine iteW_of (fun h2 => ?_) (fun h2 => ?_)
    · have hb' : b < es.length := by omega
      obtain ⟨he1, he2⟩ := hel _ (getD_mem [] hb')
      rw [drop_cons [] hb', remE_cons, List.append_assoc] at hv
      generalize hge : es.getD b [] = e at *
      simp (disch := omega) only [go_sem]
      refine W_drawW ?_
      simp (disch := omega) only [hge, hgd, S3, hlen, hlen2, go_sem]
      refine DRun.callQ (l07States_ok (ex := e.isEmpty) (ex2 := d.isEmpty) hn hN.origins he1 hd1) ⟨[], rfl, rfl⟩ ?_
      rintro _ _ ⟨rfl, hs⟩
      obtain rfl := hs.symm
      have hsl := statesP_len2 (env := e) (down := d) hn
      have hsf := fun rs (h : rs ∈ statesP n e d) => statesP_fine hn h
      generalize statesP n e d = sts at *
      simp (disch := omega) only [go_sem]
      refine W_loopC (α := Nat × Int) (fun q => q.1 ≤ sts.length ∧ (0 ≤ q.2 ∧ q.2 ≤ 12000 * (a : Nat) + 1296 * (b : Nat) + (q.1 : Nat)) ∧ VV = verGo (failP n kd f p w) (((sts.drop q.1).map fun rs => (d, e, rs)) ++ (remE n d (es.drop (b + 1)) ++ itemsP n (ds.drop (a + 1)))) q.2) (fun q => [(3, .ptr b3 0), (4, .ptr b4 0), (6, .ptr b6 0), (7, .ptr b7 0), (8, .isl false 1 (dwnV ds)), (9, .isl xe 1 (choV es)), (10, .int .i64 (a : Nat)), (11, .int .i64 (b : Nat)), (12, .isl false 1 (staV sts)), (13, .int .i64 (q.1 : Nat))]) (fun q => S q.2) (fun q => sts.length - q.1) (0, cnt) ⟨by simp, by simp only; omega, by simpa using hv⟩ (by simp (disch := omega) only [subT, Int.natCast_add, Int.cast_ofNat_Int, go_sem] <;> (repeat' apply And.intro) <;> first | rfl | (congr 1; omega) | assumption) rfl ?_
      clear hv hcn
      rintro ⟨i, cnt⟩ ⟨hi, hcn, hv⟩ ihi
      dsimp only at hi hcn hv
      simp (disch := omega) only [go_sem]
      first | refine iteW_dec (fun h3 => ?_) (fun h3 => ?_) | refine iteW_of (fun h3 => ?_) (fun h3 => ?_)
      · have hi' : i < sts.length := by omega
        have hst := hsf _ (getD_mem [] hi')
        rw [drop_cons [] hi', List.map_cons, List.cons_append] at hv
        generalize hgr : sts.getD i [] = rs at *
        obtain ⟨v1, v2⟩ := state_w hn hst
        have hfr : 0 ≤ f ∧ f < n.routers.length := by
          unfold propB at hP
          simp only [Bool.and_eq_true, routerB, inB, decide_eq_true_eq] at hP
          have := hP.1.1.2
          omega
        have hpt : (propC kd f p w).take 4 = propC kd f p w := rfl
        have hpl4 : (propC kd f p w).length = 4 := rfl
        simp (disch := omega) only [S7, Su, go_sem]
        refine W_drawW ?_
        simp (disch := omega) only [hgr, S3, S4, hlen, hlen2, hpt, hpl4, go_sem]
        refine DRun.callQ (l08Fault_ok (ex := false) (kd := kd) (p := p) (w := w) hn hst.len v1 v2 hfr (walk_len hst hfr r4)) ⟨[], rfl, rfl⟩ ?_
        rintro _ _ ⟨rfl, hs⟩
        obtain rfl := hs.symm
        have hvR := fun Γ σ => viasR (Γ := Γ) (σ := σ) (ex := false) (rs := rs) (by have := hst.len; omega)
        cases hfa : failP n kd f p w rs with
        | none =>
          rw [verGo_none hfa] at hv
          have hge : decide ((-1 : Int) ≥ 0) = false := rfl
          simp (disch := omega) only [Option.getD_none, hge, go_sem]
          exact ihi (i + 1, cnt + 1) _ _ ⟨by simp only; omega, by simp only; omega, hv⟩ (by simp only; omega) (by simp (disch := omega) only [subT, Int.natCast_add, Int.cast_ofNat_Int, go_sem] <;> (repeat' apply And.intro) <;> first | rfl | (congr 1; omega) | assumption) rfl
        | some port =>
          rw [verGo_some hfa] at hv
          have hge2 : decide (port ≥ 0) = true := decide_eq_true (fail_ge hfa)
          simp (disch := omega) only [Option.getD_some, hge2, go_sem]
          rw [W_draw]
          refine DRun.start (DRun.mixE rfl ?_)
          simp (disch := omega) only [S7, hgd, hge, hgr, go_sem]
          refine DS.callB (hvR _ _) ⟨[], rfl, rfl⟩ rfl rfl ?_
          simp (disch := omega) only [S6, go_sem]
          rw [hv]
          exact W_retC c47_ok (r' := vdV ⟨false, cnt + 1, d, e, rs.map (·.via), port⟩) (σ' := σ) (resV_cellA rfl (upd_same _ _ _) rfl) ⟨fun x c h => by
            have e6 : x ≠ b6 := fun e => by subst e; rw [hσ _ _ h] at hb6; cases hb6
            rw [upd_ne _ _ e6]; exact hσS _ _ _ h, frz_agg (by exact ⟨.refl _, .refl _, .isl _ _ _, .isl _ _ _, .refl _, .refl _, trivial⟩) (vd_one _)⟩ ⟨rfl, rfl⟩
      · have hil : i = sts.length := by omega
        subst hil
        rw [List.drop_length] at hv
        have hv : VV = verGo (failP n kd f p w) (remE n d (es.drop (b + 1)) ++ itemsP n (ds.drop (a + 1))) cnt := hv
        simp (disch := omega) only [go_sem]
        exact ihb (b + 1, cnt) _ _ ⟨by simp only; omega, by simp only; omega, hv⟩ (by simp only; omega) (by simp (disch := omega) only [subT, Int.natCast_add, Int.cast_ofNat_Int, go_sem] <;> (repeat' apply And.intro) <;> first | rfl | (congr 1; omega) | assumption) rfl
    · have hbl : b = es.length := by omega
      subst hbl
      rw [List.drop_length] at hv
      have hv : VV = verGo (failP n kd f p w) (itemsP n (ds.drop (a + 1))) cnt := hv
      simp (disch := omega) only [go_sem]
      exact ih (a + 1, cnt) _ _ ⟨by simp only; omega, by simp only; omega, hv⟩ (by simp only; omega) (by simp (disch := omega) only [subT, Int.natCast_add, Int.cast_ofNat_Int, go_sem] <;> (repeat' apply And.intro) <;> first | rfl | (congr 1; omega) | assumption) rfl
  · have hal : a = ds.length := by omega
    subst hal
    rw [List.drop_length] at hv
    have hv : VV = ⟨true, cnt, [], [], [], 0⟩ := hv
    simp (disch := omega) only [S7, S6, go_sem]
    rw [hv]
    exact W_retC c47_ok (r' := vdV ⟨true, cnt, [], [], [], 0⟩) (σ' := σ) (resV_cellA rfl (upd_same _ _ _) rfl) ⟨fun d x h => by
      have e6 : d ≠ b6 := fun e => by subst e; rw [hσ _ _ h] at hb6; cases hb6
      rw [upd_ne _ _ e6]; exact hσS _ _ _ h, frz_agg (by exact ⟨.refl _, .refl _, .isl0 _ _ _ _ (fun h => by cases h), .isl0 _ _ _ _ (fun h => by cases h), .isl0 _ _ _ _ (fun h => by cases h), .refl _, trivial⟩) (vd_one _)⟩ ⟨rfl, rfl⟩
theorem Verifys_ok {n : Net} {kd f p w : Int} {k : Nat} (hN : NetLen n) (hP : propB n kd f p w = true) (hk : k ≤ 2) :
    Ret Tryz.prog Γ 14 [netV n, .agg (propC kd f p w), .int .i64 k] σ (.tup [vdV (verP n (failP n kd f p w) k), .int .i64 0]) σ := by
  have hlen : (netC n).take 6 = netC n := rfl
  have hlen2 : (netC n).length = 6 := rfl
  have hpt : (propC kd f p w).take 4 = propC kd f p w := rfl
  have hpl4 : (propC kd f p w).length = 4 := rfl
  refine ret_of c14_ok rfl ?_
  simp (disch := omega) only [c14, netV, go_sem]
  refine SRun.boxR (net_one n) ?_
  intro b3 hb3
  simp (disch := omega) only [go_sem]
  refine SRun.boxR (prop_one kd f p w) ?_
  intro b4 hb4
  have n4 := upd_none.1 hb4
  have g4 := upd_same (upd σ b3 (netC n)) b4 (propC kd f p w)
  have g3 : upd (upd σ b3 (netC n)) b4 (propC kd f p w) b3 = some (netC n) := by rw [upd_ne _ _ n4.1.symm, upd_same]
  have hσ := le_two hb3 n4.2 (netC n) (propC kd f p w)
  simp (disch := omega) only [go_sem]
  generalize upd (upd σ b3 (netC n)) b4 (propC kd f p w) = s1 at *
  refine SRun.allocR ?_
  intro b6 hb6
  have g6 := fun z => upd_same s1 b6 z
  have g36 : ∀ z, upd s1 b6 z b3 = some (netC n) := fun z => le_upd hb6 _ _ g3
  have g46 : ∀ z, upd s1 b6 z b4 = some (propC kd f p w) := fun z => le_upd hb6 _ _ g4
  simp (disch := omega) only [g36, g46, hlen, hlen2, hpt, hpl4, go_sem]
  refine SRun.callR (PropertyOKs_ok hN hP) ⟨[], rfl, rfl⟩ rfl ?_
  simp (disch := omega) only [go_sem]
  refine SRun.callR (l01In_ok (k : Nat) 0 2) ⟨[], rfl, rfl⟩ rfl ?_
  rw [decide_eq_true (by omega : (0 : Int) ≤ (k : Nat)), decide_eq_true (by omega : ((k : Nat) : Int) ≤ 2)]
  simp (disch := omega) only [Bool.and_self, g36, g46, hlen, hlen2, hpt, hpl4, go_sem]
  refine SRun.callR (l08Verify_ok hN hP hk) ⟨[], rfl, rfl⟩ rfl ?_
  have hvl : ∀ v, (vdC v).length = 6 := fun _ => rfl
  have hvo : ∀ v, (∀ c, c ∈ vdC v → c.one = true) = True := fun v => eq_true (vd_one v)
  have hvs : ∀ v, sets [V.bool false, .int .i64 0, .isl true 0 [], .isl true 0 [], .isl true 0 [], .int .i64 0] 0 (vdC v) = vdC v := fun _ => rfl
  have hvv : ∀ v, vdV v = .agg (vdC v) := fun _ => rfl
  rw [hvv]
  simp (disch := omega) only [g6, hvl, hvo, hvs, go_sem]
  exact W_retC c14_ok (r := .tup [.agg (vdC (verP n (failP n kd f p w) k)), .int .i64 0]) (σ' := σ) (resV_cellT rfl (g6 _) rfl rfl) (Conv.drop _ fun d x h => le_upd hb6 _ _ (hσ _ _ h)) ⟨rfl, rfl⟩
end
section
attribute [local irreducible] SRun DS DRun
variable {Γ : St} {σ σ0 : St}
end
section
attribute [local irreducible] SRun DS DRun
variable {Γ : St} {σ σ0 : St}
theorem verGo_false {fail : List Rt → Option Int} : ∀ (l : List (List Bool × List Int × List Rt)) (c : Int), (verGo fail l c).holds = false → ∃ x ∈ l, ∃ port c', fail x.2.2 = some port ∧ verGo fail l c = ⟨false, c', x.1, x.2.1, x.2.2.map (·.via), port⟩ := by
  intro l
  induction l with
  | nil => intro c h; cases h
  | cons y l ih =>
    obtain ⟨d, e, rs⟩ := y
    intro c h
    cases hf : fail rs with
    | some port => exact ⟨(d, e, rs), List.mem_cons_self .., port, c + 1, hf, verGo_some hf⟩
    | none =>
      rw [verGo_none hf] at h ⊢
      obtain ⟨x, hx, port, c', h1, h2⟩ := ih _ h
      exact ⟨x, List.mem_cons_of_mem _ hx, port, c', h1, h2⟩
theorem failP_some {n : Net} {kd f p w : Int} {rs : List Rt} {port : Int} (h : failP n kd f p w rs = some port) : (0 ≤ port ∧ port ≤ 15) ∧ (p < 0 ∨ p = port) ∧ satP kd w (walkP n rs f port) = false := by
  unfold failP at h
  rw [Option.map_eq_some_iff] at h
  obtain ⟨i, hi, rfl⟩ := h
  have h1 := List.find?_some hi
  have h2 := List.mem_range.1 (List.mem_of_find?_eq_some hi)
  simp only [badB, Bool.and_eq_true, Bool.or_eq_true, decide_eq_true_eq, Bool.not_eq_true'] at h1
  exact ⟨by omega, h1.1, h1.2⟩
end
end Go.Proofs.YtjibkkhgejcjeaaGreatDoor.Lg
