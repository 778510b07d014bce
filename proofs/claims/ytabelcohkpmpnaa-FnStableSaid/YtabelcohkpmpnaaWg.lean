/- Routes, the reference's: what may be chosen, and the states that are found. -/
import Derived.Test.YtabelcohkpmpnaaWf
set_option linter.unusedSimpArgs false
set_option linter.unusedVariables false
namespace Go.Proofs.Ytabelcohkpmpnaa.Lg
open Go
attribute [local irreducible] SRun DS DRun
variable {Γ : St} {σ σ0 : St}
theorem ints1_ok (x : Int) : ∀ y ∈ [V.int .i64 x], y.cells.length = 1 ∧ ∀ c ∈ y.cells, c.one = true := ints_ok [x]
set_option maxHeartbeats 1000000 in
theorem l07Options_ok {n : Net} {ex ex2 : Bool} {env : List Int} {down : List Bool} {router : Int} (hn : NetR n) (ho : n.origins.length ≤ 1000000000000) (he : env.length = n.externals.length) (hd : down.length = n.links.length) :
    Ret Try.prog Γ 163 [netV n, .int .i64 router, .isl ex 1 (ints env), .isl ex2 1 (bools down)] σ (.isl false 1 (ints (optP n router env down))) σ := by
  have r4 := hn.r4
  have l6 := hn.l6
  have x2 := hn.x2
  have hlen : (netC n).take 6 = netC n := rfl
  have hlen2 : (netC n).length = 6 := rfl
  have e2 : (netC n)[2]? = some (.isl false 1 (ints n.origins)) := rfl
  have e3 : (netC n)[3]? = some (.isl false 1 (ints n.externals)) := rfl
  refine ret_of c163_ok rfl ?_
  simp (disch := omega) only [c163, netV, go_sem, ↓if_pos, ne_eq, ↓reduceIte]
  refine SRun.boxR (net_one n) ?_
  intro b4 hb4
  have g4 := upd_same σ b4 (netC n)
  have hσ : ∀ d x, σ d = some x → upd σ b4 (netC n) d = some x := le_upd hb4
  simp (disch := omega) only [go_sem, ↓if_pos, ne_eq, ↓reduceIte]
  generalize upd σ b4 (netC n) = s1 at *
  simp (disch := omega) only [g4, e2, go_sem, ↓if_pos, ne_eq, ↓reduceIte]
  refine SRun.callR (l07Has_ok (ex := false) (xs := n.origins) (x := router) ho) ⟨[], rfl, rfl⟩ rfl ?_
  simp (disch := omega) only [go_sem, ↓if_pos, ne_eq, ↓reduceIte]
  refine iteW_join (fun T s => ∃ q, OwnL s1 1 (ints (if 0 ≤ hasI n.origins router then [-2] else [])) q s ∧ look T 1 = .int .i64 router ∧ look T 2 = .isl ex 1 (ints env) ∧ look T 3 = .isl ex2 1 (bools down) ∧ look T 4 = .ptr b4 0 ∧ look T 9 = q) (fun k' key => ?_) ?_
  · by_cases h1 : hasI n.origins router ≥ 0
    · have hd1 : decide (hasI n.origins router ≥ 0) = true := decide_eq_true h1
      simp (disch := omega) only [hd1, go_sem, ↓if_pos, ne_eq, ↓reduceIte]
      refine SRun.appL (OwnL.nil _ 1) rfl (ints1_ok (-2)) (by simp) ?_
      intro q s ho1
      simp (disch := omega) only [go_sem, ↓if_pos, ne_eq, ↓reduceIte]
      exact key _ _ ⟨q, by rw [if_pos (by omega)]; exact ho1, rfl, rfl, rfl, rfl, rfl⟩
    · have hd1 : decide (hasI n.origins router ≥ 0) = false := decide_eq_false h1
      simp (disch := omega) only [hd1, go_sem, ↓if_pos, ne_eq, ↓reduceIte]
      exact key _ _ ⟨_, by rw [if_neg (by omega)]; exact OwnL.nil _ 1, rfl, rfl, rfl, rfl, rfl⟩
  rintro T s ⟨q, ho1, k1, k2, k3, k4, k9⟩
  have hol : optL n router env = (if 0 ≤ hasI n.origins router then [-2] else []) ++ (if outB n router env then [-1] else []) := rfl
  have hopt : optP n router env down = (if optL n router env = [] then [-3] else optL n router env) ++ nearP n router down := rfl
  have hb1 : (if 0 ≤ hasI n.origins router then [(-2 : Int)] else []).length ≤ 1 := by split <;> simp
  generalize (if 0 ≤ hasI n.origins router then [(-2 : Int)] else []) = l1 at *
  have hx1 : n.externals.length ≤ 1000000000000 := by omega
  simp (disch := omega) only [ho1.get g4, e3, k1, k2, k3, k4, go_sem, ↓if_pos, ne_eq, ↓reduceIte]
  refine SRun.callR (l07Has_ok (ex := false) (xs := n.externals) (x := router) hx1) ⟨[], rfl, rfl⟩ rfl ?_
  have hx := hasI_in n.externals router
  have hob : outB n router env = (decide (0 ≤ hasI n.externals router) && decide (0 < env.getD (hasI n.externals router).toNat 0)) := rfl
  have hxb : (hasI n.externals router ≥ 0 ∧ outB n router env = decide (env.getD (hasI n.externals router).toNat 0 > 0)) ∨ (hasI n.externals router < 0 ∧ outB n router env = false) := by
    by_cases h : 0 ≤ hasI n.externals router
    · exact .inl ⟨h, by rw [hob, decide_eq_true h]; rfl⟩
    · exact .inr ⟨by omega, by rw [hob, decide_eq_false h]; rfl⟩
  rcases hxb with ⟨hx0, hb⟩ | ⟨hx0, hb⟩
  case' inl =>
    have hd1 : decide (hasI n.externals router ≥ 0) = true := decide_eq_true hx0
    simp (disch := omega) only [hd1, k1, k2, k3, k4, k9, go_sem, ↓if_pos, ne_eq, ↓reduceIte]
    refine iteW_join (fun T s => ∃ q, OwnL s1 1 (ints (optL n router env)) q s ∧ look T 1 = .int .i64 router ∧ look T 3 = .isl ex2 1 (bools down) ∧ look T 4 = .ptr b4 0 ∧ look T 9 = q) (fun k' key => ?_) ?_
    · rw [hol, hb] at key
      first | refine iteW_dec (fun h3 => ?_) (fun h3 => ?_) | refine iteW_of (fun h3 => ?_) (fun h3 => ?_)
      · rw [if_pos (by simpa using h3)] at key
        simp (disch := omega) only [hd1, k1, k2, k3, k4, k9, go_sem, ↓if_pos, ne_eq, ↓reduceIte]
        refine SRun.appL ho1 rfl (ints1_ok (-1)) (by rw [ints_len]; simp only [List.length_singleton]; omega) ?_
        intro q2 s2 ho2
        rw [ints_app] at ho2
        simp (disch := omega) only [go_sem, ↓if_pos, ne_eq, ↓reduceIte]
        exact key _ _ ⟨q2, ho2, k1, k3, k4, rfl⟩
      · rw [if_neg (by simpa using h3), List.append_nil] at key
        simp (disch := omega) only [go_sem, ↓if_pos, ne_eq, ↓reduceIte]
        exact key _ _ ⟨q, ho1, k1, k3, k4, k9⟩
  case' inr =>
    have hd1 : decide (hasI n.externals router ≥ 0) = false := decide_eq_false (by omega)
    have hcl : OwnL s1 1 (ints (optL n router env)) q s := by rw [hol, hb, if_neg (by simp), List.append_nil]; exact ho1
    simp (disch := omega) only [hd1, k1, k2, k3, k4, k9, go_sem, ↓if_pos, ne_eq, ↓reduceIte]
    clear ho1
    have ho1 := hcl
  case' inl =>
    clear ho1 k1 k2 k3 k4 k9
    rintro T s ⟨q, ho1, k1, k3, k4, k9⟩
  all_goals
    have hol2 : (optL n router env).length ≤ 2 := by rw [hol, List.length_append]; split <;> simp <;> omega
    clear hol
    generalize optL n router env = l2 at *
    have hnl : (nearP n router down).length ≤ 4 := by
      simp only [nearP, List.length_map]
      have := List.length_filter_le (nearB n router down) (List.range n.routers.length)
      rw [List.length_range] at this; omega
    have fin : ∀ q s, OwnL s1 1 (ints (optP n router env down)) q s → Conv s q σ (.isl false 1 (ints (optP n router env down))) := fun q s ho => by
      obtain ⟨s2, h1, h2⟩ := ownL_less ho hσ
      exact ⟨fun d x h => h1 _ _ (h2.le _ _ h), ho.frz (fun _ _ => rfl) fun d h => by
        cases e : σ d with
        | none => rfl
        | some c => rw [hσ _ _ e] at h; cases h⟩
    by_cases c1 : l2 = []
    · subst c1
      have hopt2 : optP n router env down = [-3] ++ nearP n router down := by rw [hopt, if_pos rfl]
      simp (disch := omega) only [k9, stepW_len_own ho1, List.length_nil, go_sem, ↓if_pos, ne_eq, ↓reduceIte]
      refine SRun.appL ho1 rfl (ints1_ok (-3)) (by simp [ints]) ?_
      intro q2 s2 ho2
      rw [ints_app] at ho2
      simp (disch := omega) only [ho2.get g4, hlen, hlen2, k1, k3, k4, go_sem, ↓if_pos, ne_eq, ↓reduceIte]
      refine SRun.callR (l06Neighbours_ok (ex := ex2) (n := n) (down := down) (r := router) (by omega) (by omega) hd) ⟨[], rfl, rfl⟩ rfl ?_
      simp (disch := omega) only [go_sem, ↓if_pos, ne_eq, ↓reduceIte]
      refine SRun.appL ho2 rfl (ints_ok (nearP n router down)) (by simp only [ints_len, List.length_append, List.length_singleton, List.length_nil]; omega) ?_
      intro q3 s3 ho3
      have : ints ([] ++ [-3]) ++ ints (nearP n router down) = ints (optP n router env down) := by rw [hopt2]; simp [ints]
      rw [this] at ho3
      simp (disch := omega) only [go_sem, ↓if_pos, ne_eq, ↓reduceIte]
      exact W_retC c163_ok rfl (fin _ _ ho3) ⟨rfl, rfl⟩
    · have hopt2 : optP n router env down = l2 ++ nearP n router down := by rw [hopt, if_neg c1]
      have hd0 : decide ((l2.length : Int) = 0) = false := decide_eq_false fun h => c1 (List.eq_nil_of_length_eq_zero (by omega))
      simp (disch := omega) only [k9, stepW_len_own ho1, hd0, ho1.get g4, hlen, hlen2, k1, k3, k4, go_sem, ↓if_pos, ne_eq, ↓reduceIte]
      refine SRun.callR (l06Neighbours_ok (ex := ex2) (n := n) (down := down) (r := router) (by omega) (by omega) hd) ⟨[], rfl, rfl⟩ rfl ?_
      simp (disch := omega) only [go_sem, ↓if_pos, ne_eq, ↓reduceIte]
      refine SRun.appL ho1 rfl (ints_ok (nearP n router down)) (by simp only [ints_len]; omega) ?_
      intro q3 s3 ho3
      have : ints l2 ++ ints (nearP n router down) = ints (optP n router env down) := by rw [hopt2]; simp [ints]
      rw [this] at ho3
      simp (disch := omega) only [go_sem, ↓if_pos, ne_eq, ↓reduceIte]
      exact W_retC c163_ok rfl (fin _ _ ho3) ⟨rfl, rfl⟩
/-- Choices, as a list of lists: a list of nothing has no room. -/
def choV (cs : List (List Int)) : List V := cs.map fun c => .isl c.isEmpty 1 (ints c)
theorem choV_len (cs : List (List Int)) : (choV cs).length = cs.length := by simp [choV]
theorem choV_app (cs : List (List Int)) (c : List Int) (v : Int) : choV cs ++ [.isl false 1 (ints (c ++ [v]))] = choV (cs ++ [c ++ [v]]) := by simp [choV]
section
variable {P : Program} {f : FuncId} {n : Nat} {Q : V → St → Prop} {k : List It} {T : Ts} {g : GI} {l : List GI}
theorem stepW_iaddr_cho {ex : Bool} {xs : List (List Int)} {kk : IntKind} {m : Int} (h0 : 0 ≤ m) (h1 : m < xs.length) : stepW P Γ f n Q (.iaddr 1 (.c (.isl ex 1 (choV xs))) (.c (.int kk m))) g l k T σ = W P Γ f n Q (.ops l :: k) (putT T g.d (.iptr [.isl (xs.getD m.toNat []).isEmpty 1 (ints (xs.getD m.toNat []))])) σ := stepW_iaddr_map (F := fun c : List Int => .isl c.isEmpty 1 (ints c)) h0 h1
theorem stepK_iaddr_cho {K : V → St → Prop} {ex : Bool} {xs : List (List Int)} {kk : IntKind} {m : Int} (h0 : 0 ≤ m) (h1 : m < xs.length) : stepK (.iaddr 1 (.c (.isl ex 1 (choV xs))) (.c (.int kk m))) σ K = K (.iptr [.isl (xs.getD m.toNat []).isEmpty 1 (ints (xs.getD m.toNat []))]) σ := stepK_iaddr_map (F := fun c : List Int => .isl c.isEmpty 1 (ints c)) h0 h1
end
attribute [go_sem] stepW_iaddr_cho stepK_iaddr_cho choV_len
theorem flatMap_len {α β : Type} {f : α → List β} {m : Nat} (hf : ∀ x, (f x).length = m) : ∀ xs : List α, (xs.flatMap f).length = xs.length * m := by
  intro xs
  induction xs with
  | nil => simp
  | cons x r ih => rw [List.flatMap_cons, List.length_append, hf, ih, List.length_cons]; rw [Nat.add_mul]; omega
def choS (n : Net) (env : List Int) (down : List Bool) (m : Nat) : List (List Int) := (List.range m).foldl (growP n env down) [[]]
theorem choS_succ (n : Net) (env : List Int) (down : List Bool) (m : Nat) : choS n env down (m + 1) = growP n env down (choS n env down m) m := by simp [choS, List.range_succ]
theorem opt_len {n : Net} {env : List Int} {down : List Bool} (hn : NetR n) {i : Int} : (optP n i env down).length ≤ 6 := by
  have r4 := hn.r4
  have h1 : (optL n i env).length ≤ 2 := by unfold optL; rw [List.length_append]; split <;> split <;> simp
  have h2 : (nearP n i down).length ≤ 4 := by
    simp only [nearP, List.length_map]
    have := List.length_filter_le (nearB n i down) (List.range n.routers.length)
    rw [List.length_range] at this; omega
  unfold optP
  rw [List.length_append]
  split
  · simp; omega
  · omega
theorem choS_len {n : Net} {env : List Int} {down : List Bool} (hn : NetR n) : ∀ m, (choS n env down m).length ≤ 6 ^ m := by
  intro m
  induction m with
  | zero => simp [choS]
  | succ m ih =>
    rw [choS_succ]
    unfold growP
    rw [flatMap_len (m := (optP n m env down).length) (fun c => by simp)]
    have := opt_len (n := n) (env := env) (down := down) hn (i := m)
    calc _ ≤ 6 ^ m * 6 := Nat.mul_le_mul ih this
      _ = 6 ^ (m + 1) := by rw [Nat.pow_succ]
theorem choS_mem {n : Net} {env : List Int} {down : List Bool} : ∀ (m : Nat), ∀ vs ∈ choS n env down m, vs.length = m := by
  intro m
  induction m with
  | zero => intro vs h; simp [choS] at h; subst h; rfl
  | succ m ih =>
    intro vs h
    rw [choS_succ] at h
    simp only [growP, List.mem_flatMap, List.mem_map] at h
    obtain ⟨c, hc, v, hv, rfl⟩ := h
    rw [List.length_append, ih c hc]; rfl
theorem choS_bound {n : Net} {env : List Int} {down : List Bool} (hn : NetR n) {m : Nat} (hm : m ≤ 4) : (choS n env down m).length ≤ 1296 := by
  have h1 := choS_len (env := env) (down := down) hn m
  have h2 : 6 ^ m ≤ 6 ^ 4 := Nat.pow_le_pow_right (by decide) hm
  omega
set_option maxHeartbeats 1000000 in
theorem l07Choices_ok {n : Net} {ex ex2 : Bool} {env : List Int} {down : List Bool} (hn : NetR n) (ho : n.origins.length ≤ 1000000000000) (he : env.length = n.externals.length) (hd : down.length = n.links.length) :
    Ret Try.prog Γ 112 [netV n, .isl ex 1 (ints env), .isl ex2 1 (bools down)] σ (.isl false 1 (choV (choiceP n env down))) σ := by
  have r1 := hn.r1
  have r4 := hn.r4
  have hlen : (netC n).take 6 = netC n := rfl
  have hlen2 : (netC n).length = 6 := rfl
  have e0 : (netC n)[0]? = some (.isl false 1 (strsV n.routers)) := rfl
  refine ret_of c112_ok rfl ?_
  simp (disch := omega) only [c112, netV, go_sem, ↓if_pos, ne_eq, ↓reduceIte]
  refine SRun.boxR (net_one n) ?_
  intro b3 hb3
  have g3 := upd_same σ b3 (netC n)
  have hσ : ∀ d x, σ d = some x → upd σ b3 (netC n) d = some x := le_upd hb3
  simp (disch := omega) only [go_sem, ↓if_pos, ne_eq, ↓reduceIte]
  generalize upd σ b3 (netC n) = s1 at *
  refine W_loopC (α := Nat × Bool) (fun p => p.1 ≤ n.routers.length ∧ (p.2 = true → p.1 = 0)) (fun p => [(1, .isl ex 1 (ints env)), (2, .isl ex2 1 (bools down)), (3, .ptr b3 0), (7, .isl p.2 1 (choV (choS n env down p.1))), (8, .int .i64 (p.1 : Nat))]) (fun _ => s1) (fun p => n.routers.length - p.1) (0, true) ⟨by simp, fun _ => rfl⟩ (by simp (disch := omega) only [subT, Int.natCast_add, Int.cast_ofNat_Int, go_sem, ↓if_pos, ne_eq, ↓reduceIte] <;> (repeat' apply And.intro) <;> first | rfl | (congr 1; omega) | assumption) rfl ?_
  rintro ⟨i, xf⟩ ⟨hi, hxf⟩ ih
  dsimp only at hi hxf
  have hcb := choS_bound (env := env) (down := down) hn (m := i) (by omega)
  simp (disch := omega) only [g3, e0, go_sem, ↓if_pos, ne_eq, ↓reduceIte]
  first | refine iteW_dec (fun h1 => ?_) (fun h1 => ?_) | refine iteW_of (fun h1 => ?_) (fun h1 => ?_)
  · have hob := opt_len (n := n) (env := env) (down := down) hn (i := (i : Nat))
    have hsucc := choS_succ n env down i
    have hg : growP n env down (choS n env down i) i = (choS n env down i).flatMap fun c => (optP n i env down).map fun v => c ++ [v] := rfl
    rw [hg] at hsucc
    simp (disch := omega) only [g3, hlen, hlen2, go_sem, ↓if_pos, ne_eq, ↓reduceIte]
    refine SRun.callR (l07Options_ok (ex := ex) (ex2 := ex2) (router := (i : Nat)) hn ho he hd) ⟨[], rfl, rfl⟩ rfl ?_
    have hcm := fun c hc => choS_mem (n := n) (env := env) (down := down) i c hc
    generalize optP n i env down = op at *
    generalize choS n env down i = cs at *
    simp (disch := omega) only [go_sem, ↓if_pos, ne_eq, ↓reduceIte]
    have hTA : ∀ (a : Nat) (q : V), True := fun _ _ => trivial
    clear hTA
    refine W_loopC (α := Nat × V × St) (fun p => p.1 ≤ cs.length ∧ OwnL s1 1 (choV ((cs.take p.1).flatMap fun c => op.map fun v => c ++ [v])) p.2.1 p.2.2) (fun p => [(1, .isl ex 1 (ints env)), (2, .isl ex2 1 (bools down)), (3, .ptr b3 0), (7, .isl xf 1 (choV cs)), (8, .int .i64 (i : Nat)), (9, .isl false 1 (ints op)), (10, p.2.1), (11, .int .i64 (p.1 : Nat))]) (fun p => p.2.2) (fun p => cs.length - p.1) (0, _, _) ⟨by simp, OwnL.nil _ 1⟩ (by simp (disch := omega) only [subT, Int.natCast_add, Int.cast_ofNat_Int, go_sem, ↓if_pos, ne_eq, ↓reduceIte] <;> (repeat' apply And.intro) <;> first | rfl | (congr 1; omega) | assumption) rfl ?_
    rintro ⟨a, q, s⟩ ⟨ha, ho1⟩ ihA
    dsimp only at ha ho1
    simp (disch := omega) only [go_sem, ↓if_pos, ne_eq, ↓reduceIte]
    first | refine iteW_dec (fun h2 => ?_) (fun h2 => ?_) | refine iteW_of (fun h2 => ?_) (fun h2 => ?_)
    · have htk := take_succ (xs := cs) (i := a) [] (by omega)
      have hpre : ((cs.take a).flatMap fun c => op.map fun v => c ++ [v]).length ≤ 1296 * 6 := by
        rw [flatMap_len (m := op.length) (fun c => by simp)]
        exact Nat.mul_le_mul (by rw [List.length_take]; omega) hob
      have hnx : (cs.take (a + 1)).flatMap (fun c => op.map fun v => c ++ [v]) = (cs.take a).flatMap (fun c => op.map fun v => c ++ [v]) ++ op.map fun v => cs.getD a [] ++ [v] := by
        rw [htk, List.flatMap_append, List.flatMap_cons, List.flatMap_nil, List.append_nil]
      generalize (cs.take a).flatMap (fun c => op.map fun v => c ++ [v]) = pre at *
      have hcl : (cs.getD a []).length ≤ 1000000 := by have := hcm _ (getD_mem [] (by omega : a < cs.length)); omega
      simp (disch := omega) only [go_sem, ↓if_pos, ne_eq, ↓reduceIte]
      refine W_loopC (α := Nat × V × St) (fun p => p.1 ≤ op.length ∧ OwnL s1 1 (choV (pre ++ (op.take p.1).map fun v => cs.getD a [] ++ [v])) p.2.1 p.2.2) (fun p => [(1, .isl ex 1 (ints env)), (2, .isl ex2 1 (bools down)), (3, .ptr b3 0), (7, .isl xf 1 (choV cs)), (8, .int .i64 (i : Nat)), (9, .isl false 1 (ints op)), (10, p.2.1), (11, .int .i64 (a : Nat)), (12, .int .i64 (p.1 : Nat))]) (fun p => p.2.2) (fun p => op.length - p.1) (0, q, s) ⟨by simp, by simpa using ho1⟩ (by simp (disch := omega) only [subT, Int.natCast_add, Int.cast_ofNat_Int, go_sem, ↓if_pos, ne_eq, ↓reduceIte] <;> (repeat' apply And.intro) <;> first | rfl | (congr 1; omega) | assumption) rfl ?_
      clear ho1
      rintro ⟨b, q, s⟩ ⟨hb, ho1⟩ ihB
      dsimp only at hb ho1
      simp (disch := omega) only [go_sem, ↓if_pos, ne_eq, ↓reduceIte]
      first | refine iteW_dec (fun h3 => ?_) (fun h3 => ?_) | refine iteW_of (fun h3 => ?_) (fun h3 => ?_)
      · have htk2 := take_succ (xs := op) (i := b) 0 (by omega)
        have hsz : (pre ++ (op.take b).map fun v => cs.getD a [] ++ [v]).length ≤ 1296 * 6 + 6 := by
          rw [List.length_append, List.length_map, List.length_take]; omega
        have hsnoc : choV (pre ++ (op.take b).map fun v => cs.getD a [] ++ [v]) ++ [.isl false 1 (ints (cs.getD a [] ++ [op.getD b 0]))] = choV (pre ++ (op.take (b + 1)).map fun v => cs.getD a [] ++ [v]) := by
          rw [choV_app, htk2, List.map_append, List.append_assoc]; rfl
        generalize pre ++ (op.take b).map (fun v => cs.getD a [] ++ [v]) = pb at *
        simp (disch := omega) only [go_sem, ↓if_pos, ne_eq, ↓reduceIte]
        rw [W_draw]
        refine DRun.start (DRun.mixN rfl ?_)
        simp (disch := omega) only [go_sem, ↓if_pos, ne_eq, ↓reduceIte]
        generalize cs.getD a [] = c at *
        generalize hgv : op.getD b 0 = v at *
        refine DS.wrQ (WrF.appL (OwnL.nil (σ0 := emp) 1 1) rfl (ints_ok c) (by simp only [ints_len, List.length_nil]; omega)) rfl ?_
        intro r1 s1' hr1 _
        have hr1' := OwnL.of_app (OwnL.nil (σ0 := emp) 1 1) (ints_ok c) hr1
        rw [List.nil_append] at hr1'
        simp (disch := omega) only [go_sem, ↓if_pos, ne_eq, ↓reduceIte]
        refine DS.wrQ (WrF.appL hr1' rfl (ints1_ok v) (by simp only [ints_len, List.length_singleton]; omega)) rfl ?_
        intro r2 s2' hr2 hdj
        have hr2' := OwnL.of_app hr1' (ints1_ok v) hr2
        rw [ints_app] at hr2'
        obtain ⟨b2, cap, rfl, gb2, hcap, _, rfl⟩ := hr2'.at (by simp [ints])
        have hb2 := disj_new hdj
        simp (disch := omega) only [go_sem, ↓if_pos, ne_eq, ↓reduceIte]
        rw [cup_new]
        have hsb : s1 b2 = none := by
          cases e : s1 b2 with
          | none => rfl
          | some x => rw [ho1.get e] at hb2; cases hb2
        refine DRun.appL (ho1.ext hb2) rfl (fun y hy => by rw [List.mem_singleton.1 hy]; simp [V.cells, V.one]) (by rw [choV_len]; simp only [List.length_singleton]; omega) ?_
        intro q3 s3 ho3
        rw [show c.length + 1 = (ints (c ++ [v])).length by simp [ints]] at ho3
        obtain ⟨s4, hin, ho4⟩ := ownL_settle hsb (ints_ok _) ho3
        rw [hsnoc] at ho4
        simp (disch := omega) only [go_sem, ↓if_pos, ne_eq, ↓reduceIte]
        refine W_freezeIn (σ' := s4) (T' := [(1, .isl ex 1 (ints env)), (2, .isl ex2 1 (bools down)), (3, .ptr b3 0), (7, .isl xf 1 (choV cs)), (8, .int .i64 (i : Nat)), (9, .isl false 1 (ints op)), (10, q3), (11, .int .i64 (a : Nat)), (12, .int .i64 ((b : Int) + 1))]) hin (frzT_of_sub (by simp (disch := omega) only [subT, Int.natCast_add, Int.cast_ofNat_Int, go_sem, ↓if_pos, ne_eq, ↓reduceIte] <;> (repeat' apply And.intro) <;> first | rfl | (congr 1; omega) | assumption)) ?_
        exact ihB (b + 1, q3, s4) _ _ ⟨by simp only; omega, ho4⟩ (by simp only; omega) (by simp (disch := omega) only [subT, Int.natCast_add, Int.cast_ofNat_Int, go_sem, ↓if_pos, ne_eq, ↓reduceIte] <;> (repeat' apply And.intro) <;> first | rfl | (congr 1; omega) | assumption) rfl
      · have hbl : b = op.length := by omega
        subst hbl
        rw [List.take_length, ← hnx] at ho1
        simp (disch := omega) only [go_sem, ↓if_pos, ne_eq, ↓reduceIte]
        exact ihA (a + 1, q, s) _ _ ⟨by simp only; omega, ho1⟩ (by simp only; omega) (by simp (disch := omega) only [subT, Int.natCast_add, Int.cast_ofNat_Int, go_sem, ↓if_pos, ne_eq, ↓reduceIte] <;> (repeat' apply And.intro) <;> first | rfl | (congr 1; omega) | assumption) rfl
    · have hal : a = cs.length := by omega
      subst hal
      rw [List.take_length, ← hsucc] at ho1
      simp (disch := omega) only [go_sem, ↓if_pos, ne_eq, ↓reduceIte]
      refine W_freezeL (σ' := s1) (T' := [(1, .isl ex 1 (ints env)), (2, .isl ex2 1 (bools down)), (3, .ptr b3 0), (7, .isl false 1 (choV (choS n env down (i + 1)))), (8, .int .i64 ((i : Int) + 1))]) ho1.le (by exact ⟨.refl _, .refl _, .refl _, ho1.conv.2, .refl _, trivial⟩) ?_
      exact ih (i + 1, false) _ _ ⟨by simp only; omega, fun h => by cases h⟩ (by simp only; omega) (by simp (disch := omega) only [subT, Int.natCast_add, Int.cast_ofNat_Int, go_sem, ↓if_pos, ne_eq, ↓reduceIte] <;> (repeat' apply And.intro) <;> first | rfl | (congr 1; omega) | assumption) rfl
  · have hil : i = n.routers.length := by omega
    subst hil
    have hxf2 : xf = false := by
      cases xf with
      | false => rfl
      | true => have := hxf rfl; omega
    subst hxf2
    simp (disch := omega) only [go_sem, ↓if_pos, ne_eq, ↓reduceIte]
    exact W_retC c112_ok rfl (Conv.drop _ hσ) ⟨rfl, rfl⟩
end Go.Proofs.Ytabelcohkpmpnaa.Lg
