/- Routes, the reference's: what is around, all states. -/
import Derived.Test.YtabelcohkpmpnaaWg
set_option linter.unusedSimpArgs false
set_option linter.unusedVariables false
namespace Go.Proofs.Ytabelcohkpmpnaa.Lg
open Go
attribute [local irreducible] SRun DS DRun
variable {Γ : St} {σ σ0 : St}
theorem l07Env_ok {n : Net} {ex ex2 : Bool} {env : List Int} {down : List Bool} (hn : NetLen n) (he : env.length ≤ 1000000000000) (hd : down.length ≤ 1000000000000) :
    Ret Try.prog Γ 50 [netV n, .isl ex 1 (ints env), .isl ex2 1 (bools down)] σ (.int .i64 (envCode n env down)) σ := by
  have hlen : (netC n).take 6 = netC n := rfl
  have hlen2 : (netC n).length = 6 := rfl
  have l2 := hn.links
  have l6 := hn.externals
  have e1 : (netC n)[1]? = some (.isl false 3 (linksV n.links)) := rfl
  have e3 : (netC n)[3]? = some (.isl false 1 (ints n.externals)) := rfl
  have hdef : envCode n env down = if 4096 < env.length ∨ 4096 < down.length then 2 else if netB n = false then 1 else if envB n env down then 0 else 5 := rfl
  refine ret_of c50_ok rfl ?_
  simp (disch := omega) only [c50, netV, go_sem, ↓if_pos, ne_eq, ↓reduceIte]
  refine SRun.boxR (net_one n) ?_
  intro b3 hb3
  have g3 := upd_same σ b3 (netC n)
  have hσ : ∀ d x, σ d = some x → upd σ b3 (netC n) d = some x := le_upd hb3
  simp (disch := omega) only [go_sem, ↓if_pos, ne_eq, ↓reduceIte]
  generalize upd σ b3 (netC n) = s1 at *
  by_cases c1 : 4096 < env.length ∨ 4096 < down.length
  · rw [if_pos c1] at hdef
    rw [hdef]
    by_cases c2 : (env.length : Int) > 4096
    · have d2 : decide ((env.length : Int) > 4096) = true := decide_eq_true c2
      simp (disch := omega) only [d2, go_sem, ↓if_pos, ne_eq, ↓reduceIte]
      exact W_retC c50_ok rfl (Conv.drop _ hσ) ⟨rfl, rfl⟩
    · have d2 : decide ((env.length : Int) > 4096) = false := decide_eq_false c2
      have d3 : decide ((down.length : Int) > 4096) = true := decide_eq_true (by omega)
      simp (disch := omega) only [d2, d3, go_sem, ↓if_pos, ne_eq, ↓reduceIte]
      exact W_retC c50_ok rfl (Conv.drop _ hσ) ⟨rfl, rfl⟩
  rw [if_neg c1] at hdef
  have d2 : decide ((env.length : Int) > 4096) = false := decide_eq_false (by omega)
  have d3 : decide ((down.length : Int) > 4096) = false := decide_eq_false (by omega)
  simp (disch := omega) only [d2, d3, g3, hlen, hlen2, go_sem, ↓if_pos, ne_eq, ↓reduceIte]
  refine SRun.callR (NetOK_ok hn) ⟨[], rfl, rfl⟩ rfl ?_
  cases c4 : netB n with
  | false =>
    rw [hdef, if_pos c4]
    simp (disch := omega) only [go_sem, ↓if_pos, ne_eq, ↓reduceIte]
    exact W_retC c50_ok rfl (Conv.drop _ hσ) ⟨rfl, rfl⟩
  | true =>
    rw [if_neg (by rw [c4]; simp)] at hdef
    have hB : envB n env down = (decide (env.length = n.externals.length) && decide (down.length = n.links.length) && env.all fun x => inB x 0 2) := rfl
    by_cases c5 : env.length = n.externals.length
    case' neg =>
      have d5 : (decide ¬ (env.length : Int) = n.externals.length) = true := decide_eq_true (by omega)
      rw [hdef, hB, decide_eq_false c5, if_neg (by simp)]
      simp (disch := omega) only [g3, e3, d5, go_sem, ↓if_pos, ne_eq, ↓reduceIte]
      exact W_retC c50_ok rfl (Conv.drop _ hσ) ⟨rfl, rfl⟩
    have d5 : (decide ¬ (env.length : Int) = n.externals.length) = false := decide_eq_false (by omega)
    by_cases c6 : down.length = n.links.length
    case' neg =>
      have d6 : (decide ¬ (down.length : Int) = n.links.length) = true := decide_eq_true (by omega)
      rw [hdef, hB, decide_eq_false c6, if_neg (by simp)]
      simp (disch := omega) only [g3, e3, e1, d5, d6, go_sem, ↓if_pos, ne_eq, ↓reduceIte]
      exact W_retC c50_ok rfl (Conv.drop _ hσ) ⟨rfl, rfl⟩
    have d6 : (decide ¬ (down.length : Int) = n.links.length) = false := decide_eq_false (by omega)
    rw [decide_eq_true c5, decide_eq_true c6] at hB
    simp (disch := omega) only [g3, e3, e1, d5, d6, go_sem, ↓if_pos, ne_eq, ↓reduceIte]
    refine W_loopC (α := Nat) (fun i => i ≤ env.length ∧ (env.take i).all (fun x => inB x 0 2) = true) (fun i => [(1, .isl ex 1 (ints env)), (7, .int .i64 (i : Nat))]) (fun _ => s1) (fun i => env.length - i) 0 ⟨by omega, rfl⟩ (by simp (disch := omega) only [subT, Int.natCast_add, Int.cast_ofNat_Int, go_sem, ↓if_pos, ne_eq, ↓reduceIte] <;> (repeat' apply And.intro) <;> first | rfl | (congr 1; omega) | assumption) rfl ?_
    rintro i ⟨hi, hall⟩ ih
    simp (disch := omega) only [go_sem, ↓if_pos, ne_eq, ↓reduceIte]
    first | refine iteW_dec (fun h1 => ?_) (fun h1 => ?_) | refine iteW_of (fun h1 => ?_) (fun h1 => ?_)
    · have hnx := all_takeD (xs := env) (p := fun x => inB x 0 2) (i := i) (by omega) hall
      have hno := all_falseD (xs := env) (p := fun x => inB x 0 2) (i := i) (by omega)
      have hg : env.getD i default = env.getD i 0 := rfl
      rw [hg] at hnx hno
      simp (disch := omega) only [go_sem, ↓if_pos, ne_eq, ↓reduceIte]
      generalize env.getD i 0 = x at *
      refine SRun.callR (l01In_ok x 0 2) ⟨[], rfl, rfl⟩ rfl ?_
      have hin : inB x 0 2 = (decide (0 ≤ x) && decide (x ≤ 2)) := rfl
      rw [← hin]
      cases c7 : inB x 0 2 with
      | true =>
        simp (disch := omega) only [go_sem, ↓if_pos, ne_eq, ↓reduceIte]
        exact ih (i + 1) _ _ ⟨by omega, hnx c7⟩ (by omega) (by simp (disch := omega) only [subT, Int.natCast_add, Int.cast_ofNat_Int, go_sem, ↓if_pos, ne_eq, ↓reduceIte] <;> (repeat' apply And.intro) <;> first | rfl | (congr 1; omega) | assumption) rfl
      | false =>
        rw [hdef, hB, hno c7]
        simp (disch := omega) only [go_sem, ↓if_pos, ne_eq, ↓reduceIte]
        exact W_retC c50_ok rfl (Conv.drop _ hσ) ⟨rfl, rfl⟩
    · have hil : i = env.length := by omega
      subst hil
      rw [List.take_length] at hall
      rw [hdef, hB, hall]
      simp (disch := omega) only [go_sem, ↓if_pos, ne_eq, ↓reduceIte]
      exact W_retC c50_ok rfl (Conv.drop _ hσ) ⟨rfl, rfl⟩
/-- States, as a list of lists of routes. -/
def staV (ss : List (List Rt)) : List V := ss.map fun rs => .isl false 4 (rtsV rs)
theorem staV_len (ss : List (List Rt)) : (staV ss).length = ss.length := by simp [staV]
theorem staV_app (ss : List (List Rt)) (rs : List Rt) : staV ss ++ [.isl false 4 (rtsV rs)] = staV (ss ++ [rs]) := by simp [staV]
section
variable {P : Program} {f : FuncId} {n : Nat} {Q : V → St → Prop} {k : List It} {T : Ts} {g : GI} {l : List GI}
theorem stepW_iaddr_sta {ex : Bool} {xs : List (List Rt)} {kk : IntKind} {m : Int} (h0 : 0 ≤ m) (h1 : m < xs.length) : stepW P Γ f n Q (.iaddr 1 (.c (.isl ex 1 (staV xs))) (.c (.int kk m))) g l k T σ = W P Γ f n Q (.ops l :: k) (putT T g.d (.iptr [.isl false 4 (rtsV (xs.getD m.toNat []))])) σ := stepW_iaddr_map (F := fun rs : List Rt => .isl false 4 (rtsV rs)) h0 h1
theorem stepK_iaddr_sta {K : V → St → Prop} {ex : Bool} {xs : List (List Rt)} {kk : IntKind} {m : Int} (h0 : 0 ≤ m) (h1 : m < xs.length) : stepK (.iaddr 1 (.c (.isl ex 1 (staV xs))) (.c (.int kk m))) σ K = K (.iptr [.isl false 4 (rtsV (xs.getD m.toNat []))]) σ := stepK_iaddr_map (F := fun rs : List Rt => .isl false 4 (rtsV rs)) h0 h1
end
attribute [go_sem] stepW_iaddr_sta stepK_iaddr_sta staV_len
theorem sta1_ok (rs : List Rt) : ∀ y ∈ [V.isl false 4 (rtsV rs)], y.cells.length = 1 ∧ ∀ c ∈ y.cells, c.one = true := by
  intro y hy; rw [List.mem_singleton.1 hy]; simp [V.cells, V.one]
theorem opt_in {n : Net} {env : List Int} {down : List Bool} {i v : Int} (hn : NetR n) (h : v ∈ optP n i env down) : v < n.routers.length := by
  have r1 := hn.r1
  unfold optP at h
  rw [List.mem_append] at h
  rcases h with h | h
  · split at h
    · rw [List.mem_singleton.1 h]; omega
    · unfold optL at h
      rw [List.mem_append] at h
      rcases h with h | h
      · split at h
        · rw [List.mem_singleton.1 h]; omega
        · cases h
      · split at h
        · rw [List.mem_singleton.1 h]; omega
        · cases h
  · exact (near_mem h).2.1
theorem cho_in {n : Net} {env : List Int} {down : List Bool} (hn : NetR n) : ∀ (m : Nat), ∀ vs ∈ choS n env down m, ∀ v ∈ vs, v < n.routers.length := by
  intro m
  induction m with
  | zero => intro vs h v hv; simp [choS] at h; subst h; cases hv
  | succ m ih =>
    intro vs h v hv
    rw [choS_succ] at h
    simp only [growP, List.mem_flatMap, List.mem_map] at h
    obtain ⟨c, hc, w, hw, rfl⟩ := h
    rcases List.mem_append.1 hv with hv | hv
    · exact ih c hc v hv
    · rw [List.mem_singleton.1 hv]; exact opt_in hn hw
set_option maxHeartbeats 1000000 in
theorem l07States_ok {n : Net} {ex ex2 : Bool} {env : List Int} {down : List Bool} (hn : NetR n) (ho : n.origins.length ≤ 1000000000000) (he : env.length = n.externals.length) (hd : down.length = n.links.length) :
    Ret Try.prog Γ 51 [netV n, .isl ex 1 (ints env), .isl ex2 1 (bools down)] σ (.isl false 1 (staV (statesP n env down))) σ := by
  have r4 := hn.r4
  have hlen : (netC n).take 6 = netC n := rfl
  have hlen2 : (netC n).length = 6 := rfl
  refine ret_of c51_ok rfl ?_
  simp (disch := omega) only [c51, netV, go_sem, ↓if_pos, ne_eq, ↓reduceIte]
  refine SRun.boxR (net_one n) ?_
  intro b3 hb3
  have g3 := upd_same σ b3 (netC n)
  have hσ : ∀ d x, σ d = some x → upd σ b3 (netC n) d = some x := le_upd hb3
  simp (disch := omega) only [go_sem, ↓if_pos, ne_eq, ↓reduceIte]
  generalize upd σ b3 (netC n) = s1 at *
  simp (disch := omega) only [g3, hlen, hlen2, go_sem, ↓if_pos, ne_eq, ↓reduceIte]
  refine SRun.callR (l07Choices_ok (ex := ex) (ex2 := ex2) hn ho he hd) ⟨[], rfl, rfl⟩ rfl ?_
  have hcb := choS_bound (env := env) (down := down) hn (m := n.routers.length) (by omega)
  have hcm := choS_mem (n := n) (env := env) (down := down) n.routers.length
  have hci := cho_in (n := n) (env := env) (down := down) hn n.routers.length
  have hcS : choS n env down n.routers.length = choiceP n env down := rfl
  rw [hcS] at hcb hcm hci
  have hst : statesP n env down = (choiceP n env down).filterMap (stateO n env down) := rfl
  rw [hst]
  clear hcS hst
  generalize choiceP n env down = cs at *
  simp (disch := omega) only [go_sem, ↓if_pos, ne_eq, ↓reduceIte]
  refine W_loopC (α := Nat × V × St) (fun p => p.1 ≤ cs.length ∧ OwnL s1 1 (staV ((cs.take p.1).filterMap (stateO n env down))) p.2.1 p.2.2) (fun p => [(1, .isl ex 1 (ints env)), (2, .isl ex2 1 (bools down)), (3, .ptr b3 0), (7, p.2.1), (8, .isl false 1 (choV cs)), (9, .int .i64 (p.1 : Nat))]) (fun p => p.2.2) (fun p => cs.length - p.1) (0, _, _) ⟨by simp, OwnL.nil _ 1⟩ (by simp (disch := omega) only [subT, Int.natCast_add, Int.cast_ofNat_Int, go_sem, ↓if_pos, ne_eq, ↓reduceIte] <;> (repeat' apply And.intro) <;> first | rfl | (congr 1; omega) | assumption) rfl ?_
  rintro ⟨i, q, s⟩ ⟨hi, ho1⟩ ih
  dsimp only at hi ho1
  have g3' := ho1.get g3
  simp (disch := omega) only [go_sem, ↓if_pos, ne_eq, ↓reduceIte]
  first | refine iteW_dec (fun h1 => ?_) (fun h1 => ?_) | refine iteW_of (fun h1 => ?_) (fun h1 => ?_)
  · have htk := take_succ (xs := cs) (i := i) [] (by omega)
    have hm := getD_mem (xs := cs) [] (by omega : i < cs.length)
    have hl1 := hcm _ hm
    have hi1 := hci _ hm
    have hsz : ((cs.take i).filterMap (stateO n env down)).length ≤ 1296 := by
      have := List.length_filterMap_le (stateO n env down) (cs.take i)
      rw [List.length_take] at this; omega
    have hfm : (cs.take (i + 1)).filterMap (stateO n env down) = (cs.take i).filterMap (stateO n env down) ++ [cs.getD i []].filterMap (stateO n env down) := by rw [htk, List.filterMap_append]
    simp (disch := omega) only [go_sem, ↓if_pos, ne_eq, ↓reduceIte]
    refine W_drawW ?_
    simp (disch := omega) only [g3', hlen, hlen2, go_sem, ↓if_pos, ne_eq, ↓reduceIte]
    generalize hgc : cs.getD i [] = c at *
    refine DRun.callQ (l07Of_ok (ex := ex) (ex2 := ex2) (ex3 := c.isEmpty) hn ho he hd (vias := c) hl1 (by rw [hl1]; exact hi1)) ⟨[], rfl, rfl⟩ ?_
    rintro r s ⟨hs, rs', rfl, hrs⟩
    obtain rfl := hs.symm
    have hso : stateO n env down c = (ofP n env down c).bind fun rs => if stableB n env down rs then some rs else none := rfl
    cases hof : ofP n env down c with
    | none =>
      rw [hof] at hso
      have hno : [c].filterMap (stateO n env down) = [] := by rw [List.filterMap_cons, hso]; rfl
      rw [hno, List.append_nil] at hfm
      simp (disch := omega) only [Option.isSome_none, go_sem, ↓if_pos, ne_eq, ↓reduceIte]
      exact ih (i + 1, q, s) _ _ ⟨by simp only; omega, by simp only; rw [hfm]; exact ho1⟩ (by simp only; omega) (by simp (disch := omega) only [subT, Int.natCast_add, Int.cast_ofNat_Int, go_sem, ↓if_pos, ne_eq, ↓reduceIte] <;> (repeat' apply And.intro) <;> first | rfl | (congr 1; omega) | assumption) rfl
    | some rs =>
      rw [hof] at hso
      obtain rfl := hrs rs hof
      obtain ⟨f1, f2, f3⟩ := ofP_fine hn hof
      have hrw : RtsW rs' := by
        have r1 := hn.r1
        have hdf : ∀ v : Int, ¬ v.toNat < rs'.length → rtAt rs' v = default := fun v hv => by simp [rtAt, List.getD, List.getElem?_eq_none (by omega : rs'.length ≤ v.toNat)]
        constructor
        · intro v
          by_cases hv : v.toNat < rs'.length
          · have := (f2 _ hv).via.2
            unfold rtAt; omega
          · rw [hdf v hv]; show (0 : Int) < _; omega
        · intro v
          by_cases hv : v.toNat < rs'.length
          · have := (f2 _ hv).len
            unfold rtAt; omega
          · rw [hdf v hv]; show (0 : Int) ≤ 0 ∧ (0 : Int) ≤ _; omega
      simp (disch := omega) only [g3', hlen, hlen2, Option.isSome_some, go_sem, ↓if_pos, ne_eq, ↓reduceIte]
      refine SRun.callR (l07Stable_ok (ex := ex) (ex2 := ex2) (ex3 := false) hn ho he hd (f1.trans hl1) hrw) ⟨[], rfl, rfl⟩ rfl ?_
      cases hsb : stableB n env down rs' with
      | false =>
        have hno : [c].filterMap (stateO n env down) = [] := by rw [List.filterMap_cons, hso]; simp [hsb]
        rw [hno, List.append_nil] at hfm
        simp (disch := omega) only [go_sem, ↓if_pos, ne_eq, ↓reduceIte]
        exact ih (i + 1, q, s) _ _ ⟨by simp only; omega, by simp only; rw [hfm]; exact ho1⟩ (by simp only; omega) (by simp (disch := omega) only [subT, Int.natCast_add, Int.cast_ofNat_Int, go_sem, ↓if_pos, ne_eq, ↓reduceIte] <;> (repeat' apply And.intro) <;> first | rfl | (congr 1; omega) | assumption) rfl
      | true =>
        have hno : [c].filterMap (stateO n env down) = [rs'] := by rw [List.filterMap_cons, hso]; simp [hsb]
        rw [hno] at hfm
        simp (disch := omega) only [go_sem, ↓if_pos, ne_eq, ↓reduceIte]
        refine SRun.appL ho1 rfl (sta1_ok rs') (by rw [staV_len]; simp only [List.length_singleton]; omega) ?_
        intro q2 s2 ho2
        rw [staV_app, ← hfm] at ho2
        simp (disch := omega) only [go_sem, ↓if_pos, ne_eq, ↓reduceIte]
        exact ih (i + 1, q2, s2) _ _ ⟨by simp only; omega, ho2⟩ (by simp only; omega) (by simp (disch := omega) only [subT, Int.natCast_add, Int.cast_ofNat_Int, go_sem, ↓if_pos, ne_eq, ↓reduceIte] <;> (repeat' apply And.intro) <;> first | rfl | (congr 1; omega) | assumption) rfl
  · have hil : i = cs.length := by omega
    subst hil
    rw [List.take_length] at ho1
    simp (disch := omega) only [go_sem, ↓if_pos, ne_eq, ↓reduceIte]
    refine W_retC c51_ok rfl ⟨fun d x h => ho1.le _ _ (hσ _ _ h), ho1.frz (fun _ _ => rfl) fun d h => ?_⟩ ⟨rfl, rfl⟩
    cases e : σ d with
    | none => rfl
    | some x => rw [hσ _ _ e] at h; cases h
theorem StableStatess_ok {n : Net} {ex ex2 : Bool} {env : List Int} {down : List Bool} (hn : NetLen n) (hB : netB n = true) (hE : envB n env down = true) :
    Ret Try.prog Γ 11 [netV n, .isl ex 1 (ints env), .isl ex2 1 (bools down)] σ (.tup [.isl false 1 (staV (statesP n env down)), .int .i64 0]) σ := by
  have hR := netR_of hB
  have r4 := hR.r4
  have l6 := hR.l6
  have x2 := hR.x2
  have hlen : (netC n).take 6 = netC n := rfl
  have hlen2 : (netC n).length = 6 := rfl
  have hE2 := hE
  simp only [envB, Bool.and_eq_true, decide_eq_true_eq] at hE2
  obtain ⟨⟨q1, q2⟩, _⟩ := hE2
  have hc : envCode n env down = 0 := by
    unfold envCode
    rw [if_neg (by omega), if_neg (by rw [hB]; simp), if_pos hE]
  have hEv := fun Γ σ => l07Env_ok (Γ := Γ) (σ := σ) (ex := ex) (ex2 := ex2) (env := env) (down := down) hn (by omega) (by omega)
  rw [hc] at hEv
  refine ret_of c11_ok rfl ?_
  simp (disch := omega) only [c11, netV, go_sem, ↓if_pos, ne_eq, ↓reduceIte]
  refine SRun.boxR (net_one n) ?_
  intro b3 hb3
  have g3 := upd_same σ b3 (netC n)
  have hσ : ∀ d x, σ d = some x → upd σ b3 (netC n) d = some x := le_upd hb3
  simp (disch := omega) only [go_sem, ↓if_pos, ne_eq, ↓reduceIte]
  generalize upd σ b3 (netC n) = s1 at *
  simp (disch := omega) only [g3, hlen, hlen2, go_sem, ↓if_pos, ne_eq, ↓reduceIte]
  refine SRun.callR (hEv _ _) ⟨[], rfl, rfl⟩ rfl ?_
  simp (disch := omega) only [g3, hlen, hlen2, go_sem, ↓if_pos, ne_eq, ↓reduceIte]
  refine SRun.callR (l07States_ok (ex := ex) (ex2 := ex2) hR hn.origins q1 q2) ⟨[], rfl, rfl⟩ rfl ?_
  simp (disch := omega) only [go_sem, ↓if_pos, ne_eq, ↓reduceIte]
  exact W_retC c11_ok rfl (Conv.drop _ hσ) ⟨rfl, rfl⟩
section
variable {P : Program} {f : FuncId} {n : Nat} {Q : V → St → Prop} {k : List It} {T : Ts} {g : GI} {l : List GI}
theorem stepW_eqa4 {neg : Bool} {a1 a2 a3 b1 b2 b3 : Int} {a4 b4 : Bool} : stepW P Γ f n Q (.eqa neg [0, 0, 0, 1] (.c (.agg [.int .i64 a1, .int .i64 a2, .int .i64 a3, .bool a4])) (.c (.agg [.int .i64 b1, .int .i64 b2, .int .i64 b3, .bool b4]))) g l k T σ = W P Γ f n Q (.ops l :: k) (putT T g.d (.bool (neg != decide ((⟨a1, a2, a3, a4⟩ : Rt) = ⟨b1, b2, b3, b4⟩)))) σ := by
  rw [stepW_eqa]
  have h := rt_dec ⟨a1, a2, a3, a4⟩ ⟨b1, b2, b3, b4⟩
  rw [← h]
  cases neg <;> simp [pureI, eqK, pureW, ev, int_beq]
end
theorem bne_t (b : Bool) : (true != b) = !b := by cases b <;> rfl
theorem bne_f (b : Bool) : (false != b) = b := by cases b <;> rfl
theorem resV_cellT {T : Ts} {a n m b : Nat} {cs : List V} {v : V} (h1 : look T a = .ptr b 0) (h2 : σ b = some cs) (h3 : cs.length = n) (h4 : look T m = v) : resV [.cell a true n, .t m] T σ = some (.tup [.agg cs, v]) := by
  have ht : cs.take n = cs := List.take_of_length_le (by omega)
  simp [resV, resV1, h1, h2, h3, h4, ht]
theorem indexInt_ok {ex : Bool} {xs : List Int} {x : Int} (hl : xs.length ≤ 1000000000000) : Ret Try.prog Γ 169 [.isl ex 1 (ints xs), .int .i64 x] σ (.int .i64 (hasI xs x)) σ := by
  refine ret_of c169_ok rfl ?_
  simp (disch := omega) only [c169, go_sem, ↓if_pos, ne_eq, ↓reduceIte]
  refine W_loopC (α := Nat) (fun i => i ≤ xs.length ∧ ∀ j, j < i → decide (xs.getD j default = x) = false) (fun i => [(0, .isl ex 1 (ints xs)), (1, .int .i64 x), (7, .int .i64 xs.length), (8, .int .i64 (i : Nat))]) (fun _ => σ) (fun i => xs.length - i) 0 ⟨by omega, fun j hj => by omega⟩ (by simp (disch := omega) only [subT, Int.natCast_add, Int.cast_ofNat_Int, go_sem, ↓if_pos, ne_eq, ↓reduceIte] <;> (repeat' apply And.intro) <;> first | rfl | (congr 1; omega) | assumption) rfl ?_
  rintro i ⟨hi, hno⟩ ih
  simp (disch := omega) only [go_sem, ↓if_pos, ne_eq, ↓reduceIte]
  first | refine iteW_dec (fun hq => ?_) (fun hq => ?_) | refine iteW_of (fun hq => ?_) (fun hq => ?_)
  · simp (disch := omega) only [go_sem, ↓if_pos, ne_eq, ↓reduceIte]
    first | refine iteW_dec (fun h2 => ?_) (fun h2 => ?_) | refine iteW_of (fun h2 => ?_) (fun h2 => ?_)
    · have := first_some (p := fun y => decide (y = x)) (xs := xs) (i := i) (by omega) hno (decide_eq_true (show xs.getD i 0 = x by omega))
      simp (disch := omega) only [go_sem, ↓if_pos, ne_eq, ↓reduceIte]
      exact W_retR c169_ok rfl ⟨by rw [hasI, this]; rfl, rfl⟩
    · simp (disch := omega) only [go_sem, ↓if_pos, ne_eq, ↓reduceIte]
      refine ih (i + 1) _ _ ⟨by omega, fun j hj => ?_⟩ (by omega) (by simp (disch := omega) only [subT, Int.natCast_add, Int.cast_ofNat_Int, go_sem, ↓if_pos, ne_eq, ↓reduceIte] <;> (repeat' apply And.intro) <;> first | rfl | (congr 1; omega) | assumption) rfl
      by_cases e : j = i
      · subst e; exact decide_eq_false (show ¬ xs.getD j 0 = x by omega)
      · exact hno j (by omega)
  · have hil : i = xs.length := by omega
    rw [hil] at hno
    have := first_none (p := fun y => decide (y = x)) (xs := xs) hno
    simp (disch := omega) only [go_sem, ↓if_pos, ne_eq, ↓reduceIte]
    exact W_retR c169_ok rfl ⟨by rw [hasI, this]; rfl, rfl⟩
def hasB (xs : List Int) (x : Int) : Bool := decide (hasI xs x ≥ 0)
theorem containsInt_ok {ex : Bool} {xs : List Int} {x : Int} (hl : xs.length ≤ 1000000000000) : Ret Try.prog Γ 129 [.isl ex 1 (ints xs), .int .i64 x] σ (.bool (hasB xs x)) σ := by
  refine ret_of c129_ok rfl ?_
  simp (disch := omega) only [c129, go_sem, ↓if_pos, ne_eq, ↓reduceIte]
  refine SRun.callR (indexInt_ok hl) ⟨[], rfl, rfl⟩ rfl ?_
  simp (disch := omega) only [go_sem, ↓if_pos, ne_eq, ↓reduceIte]
  exact W_retR c129_ok rfl ⟨rfl, rfl⟩
end Go.Proofs.Ytabelcohkpmpnaa.Lg
