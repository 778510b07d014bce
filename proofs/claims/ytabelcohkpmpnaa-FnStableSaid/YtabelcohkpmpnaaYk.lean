/- FnStable: the program's routes by what each router has chosen, all stable states, what is asked of them; the law over its code. -/
import Derived.Test.YtabelcohkpmpnaaWy
import Derived.Test.YtabelcohkpmpnaaWw
import Derived.Test.YtabelcohkpmpnaaRu
import Derived.Test.YtabelcohkpmpnaaWi
set_option linter.unusedSimpArgs false
set_option linter.unusedVariables false
namespace Go.Proofs.Ytabelcohkpmpnaa.Lg
open Go
attribute [local irreducible] SRun DS DRun
section
variable {Γ : St} {σ σ0 : St}
theorem sameRoutes_ok {ex ex2 : Bool} {xs ys : List Rt} (hl : xs.length ≤ 1000000000) : Ret Try.prog Γ 19 [.isl ex 4 (rtsV xs), .isl ex2 4 (rtsV ys)] σ (.bool (decide (xs = ys))) σ := by
  refine ret_of c19_ok rfl ?_
  simp (disch := omega) only [c19, go_sem, ↓if_pos, ne_eq, ↓reduceIte]
  by_cases c1 : xs.length = ys.length
  case' neg =>
    have d1 : (decide ¬ (xs.length : Int) = ys.length) = true := decide_eq_true (by omega)
    rw [decide_eq_false (fun e => c1 (by rw [e]))]
    simp (disch := omega) only [d1, go_sem, ↓if_pos, ne_eq, ↓reduceIte]
    exact W_retR c19_ok rfl ⟨rfl, rfl⟩
  have d1 : (decide ¬ (xs.length : Int) = ys.length) = false := decide_eq_false (by omega)
  simp (disch := omega) only [d1, go_sem, ↓if_pos, ne_eq, ↓reduceIte]
  refine W_loopC (α := Nat) (fun i => i ≤ xs.length ∧ ∀ j, j < i → xs.getD j default = ys.getD j default) (fun i => [(0, .isl ex 4 (rtsV xs)), (1, .isl ex2 4 (rtsV ys)), (5, .int .i64 (i : Nat))]) (fun _ => σ) (fun i => xs.length - i) 0 ⟨by omega, fun j hj => by omega⟩ (by simp (disch := omega) only [subT, Int.natCast_add, Int.cast_ofNat_Int, go_sem, ↓if_pos, ne_eq, ↓reduceIte] <;> (repeat' apply And.intro) <;> first | rfl | (congr 1; omega) | assumption) rfl ?_
  rintro i ⟨hi, hall⟩ ih
  have hrt4 : ∀ r : Rt, (rtC r).take 4 = rtC r := fun _ => rfl
  have hrt5 : ∀ r : Rt, (rtC r).length = 4 := fun _ => rfl
  simp (disch := omega) only [go_sem, ↓if_pos, ne_eq, ↓reduceIte]
  first | refine iteW_dec (fun h1 => ?_) (fun h1 => ?_) | refine iteW_of (fun h1 => ?_) (fun h1 => ?_)
  · simp (disch := omega) only [go_sem, ↓if_pos, ne_eq, ↓reduceIte]
    refine W_drawW ?_
    simp (disch := omega) only [hrt4, hrt5, stepK_eqaR, bne_t, go_sem, ↓if_pos, ne_eq, ↓reduceIte]
    first | refine iteW_dec (fun c2 => ?_) (fun c2 => ?_) | refine iteW_of (fun c2 => ?_) (fun c2 => ?_)
    · rw [decide_eq_false (fun e => c2 (by rw [e]))]
      simp (disch := omega) only [go_sem, ↓if_pos, ne_eq, ↓reduceIte]
      exact W_retR c19_ok rfl ⟨rfl, rfl⟩
    · simp (disch := omega) only [go_sem, ↓if_pos, ne_eq, ↓reduceIte]
      refine ih (i + 1) _ _ ⟨by omega, fun j hj => ?_⟩ (by omega) (by simp (disch := omega) only [subT, Int.natCast_add, Int.cast_ofNat_Int, go_sem, ↓if_pos, ne_eq, ↓reduceIte] <;> (repeat' apply And.intro) <;> first | rfl | (congr 1; omega) | assumption) rfl
      by_cases e : j = i
      · subst e; exact Decidable.not_not.1 c2
      · exact hall j (by omega)
  · have hil : i = xs.length := by omega
    subst hil
    have he : xs = ys := List.ext_getElem c1 fun j h1 h2 => by
      have := hall j h1
      simpa [List.getD, h1, h2] using this
    rw [decide_eq_true he]
    simp (disch := omega) only [go_sem, ↓if_pos, ne_eq, ↓reduceIte]
    exact W_retR c19_ok rfl ⟨rfl, rfl⟩
end
section
variable {Γ : St} {σ σ0 : St}
theorem statesP_len {n : Net} {env : List Int} {down : List Bool} (hn : NetR n) : (statesP n env down).length ≤ 1296 := by
  have h1 := List.length_filterMap_le (stateO n env down) (choiceP n env down)
  have h2 := choS_bound (env := env) (down := down) hn (m := n.routers.length) hn.r4
  have h3 : choS n env down n.routers.length = choiceP n env down := rfl
  rw [h3] at h2
  unfold statesP; omega
end
section
variable {Γ : St} {σ σ0 : St}
theorem fi_len (l : List Int) : (flat (ints l)).length = l.length * 1 := by rw [flat_ints, ints_len, Nat.mul_one]
theorem fi_take (l : List Int) (k : Nat) : (flat (ints l)).take (k * 1) = flat (ints (l.take k)) := by rw [flat_ints, flat_ints]; simp [ints, List.map_take]
theorem fi_drop (l : List Int) (k : Nat) : (flat (ints l)).drop (k * 1) = flat (ints (l.drop k)) := by rw [flat_ints, flat_ints]; simp [ints, List.map_drop]
theorem fi_app (l m : List Int) : flat (ints l) ++ flat (ints m) = flat (ints (l ++ m)) := by rw [flat_ints, flat_ints, flat_ints]; simp [ints]
theorem fi_zero (n : Nat) : (List.replicate n [V.int .i64 0]).flatten = flat (ints (List.replicate n (0 : Int))) := by
  induction n with
  | zero => rfl
  | succ n ih => rw [List.replicate_succ, List.flatten_cons, ih]; rfl
theorem repeatInt_own {n : Nat} (hn : 1 ≤ n ∧ n ≤ 4) {ex : Bool} {x : Int} : ACalls Try.prog Γ 144 [.isl ex 1 [.int .i64 x], .int .i64 n] σ fun r s => OwnL σ 1 (ints (List.replicate n x)) r s := by
  have d1 : decide ((n : Int) < 0) = false := decide_eq_false (by omega)
  have w1 : IntKind.u64.wrap 1 = 1 := by rfl
  have w2 : IntKind.u64.wrap (n : Int) = n := by rcases (by omega : n = 1 ∨ n = 2 ∨ n = 3 ∨ n = 4) with rfl | rfl | rfl | rfl <;> rfl
  have w3 : IntKind.i64.wrap (n : Int) = n := by rcases (by omega : n = 1 ∨ n = 2 ∨ n = 3 ∨ n = 4) with rfl | rfl | rfl | rfl <;> rfl
  refine acalls_W c144_ok rfl ?_
  simp (disch := omega) only [c144, d1, w1, w2, go_sem, ↓if_pos, ne_eq, ↓reduceIte]
  refine SRun.callR (Mul_ok hn.2) ⟨[], rfl, rfl⟩ rfl ?_
  have d2 : decide ((0 : Int) > 0) = false := by rfl
  have d3 : decide ((n : Int) > 9223372036854775807) = false := decide_eq_false (by omega)
  simp (disch := omega) only [d2, d3, w3, go_sem, ↓if_pos, ne_eq, ↓reduceIte]
  refine SRun.mkslR (n' := n) (m := n) rfl rfl rfl (Nat.le_refl _) (by omega) (by omega) ?_
  intro b hb
  rw [fi_zero]
  have hbl := fi_len (List.replicate n (0 : Int))
  rw [List.length_replicate] at hbl
  simp (disch := omega) only [go_sem, ↓if_pos, ne_eq, ↓reduceIte]
  refine SRun.copyR (new := flat (ints [x])) (m := 1) (j := 1) (by decide) rfl (upd_same _ _ _) (by omega) (by exact src_isl (ys := ints [x])) (by show 1 = min 1 n; omega) (.inl rfl) ?_
  have hM : ∀ (l : List Int) (k j : Nat), l.length = n → k + j ≤ n → (flat (ints l)).take (k * 1) ++ (flat (ints (l.take k))).take (j * 1) ++ (flat (ints l)).drop (k * 1 + j * 1) = flat (ints (l.take k ++ (l.take k).take j ++ l.drop (k + j))) := fun l k j h1 h2 => by
    rw [fi_take, fi_take, ← Nat.add_mul, fi_drop, fi_app, fi_app]
  have h1 : (flat (ints (List.replicate n 0))).take 0 ++ (flat (ints [x])).take (1 * 1) ++ (flat (ints (List.replicate n 0))).drop (0 + 1 * 1) = flat (ints (List.replicate 1 x ++ List.replicate (n - 1) 0)) := by
    rw [fi_take, show 0 + 1 * 1 = 1 * 1 by omega, fi_drop, List.take_zero, List.nil_append, fi_app]
    congr 2
    rw [List.drop_replicate]; rfl
  rw [h1, upd_upd]
  simp (disch := omega) only [go_sem, ↓if_pos, ne_eq, ↓reduceIte]
  refine W_loopC (α := Nat) (fun k => 1 ≤ k ∧ k ≤ n) (fun k => [(7, .msl b 1 0 n n), (8, .int .i64 (k : Nat))]) (fun k => upd σ b (flat (ints (List.replicate k x ++ List.replicate (n - k) 0)))) (fun k => n - k) 1 ⟨by omega, by omega⟩ (by simp (disch := omega) only [subT, Int.natCast_add, Int.cast_ofNat_Int, go_sem, ↓if_pos, ne_eq, ↓reduceIte] <;> (repeat' apply And.intro) <;> first | rfl | (congr 1; omega) | assumption) rfl ?_
  rintro k ⟨hk1, hk2⟩ ih
  simp (disch := omega) only [go_sem, ↓if_pos, ne_eq, ↓reduceIte]
  first | refine iteW_dec (fun h2 => ?_) (fun h2 => ?_) | refine iteW_of (fun h2 => ?_) (fun h2 => ?_)
  · simp (disch := omega) only [go_sem, ↓if_pos, ne_eq, ↓reduceIte]
    rw [W_draw]
    have e1 : (if (n : Int) = k then 0 else k) = k := if_neg (by omega)
    have e2 : ((n : Int) - k).toNat = n - k := by omega
    have e3 : ((k : Int) - 0).toNat = k := by omega
    have e4 : ((n : Int) - 0).toNat = n := by omega
    have e5 : (if (n : Int) = 0 then 0 else 0) = 0 := ite_self _
    obtain ⟨L, hL⟩ : ∃ L : List Int, L = List.replicate k x ++ List.replicate (n - k) 0 := ⟨_, rfl⟩
    have hLl : L.length = n := by rw [hL]; simp; omega
    have hLt : L.take k = List.replicate k x := by rw [hL]; exact List.take_left' (by simp)
    have hfl := fi_len L
    obtain ⟨j, hj⟩ : ∃ j, j = Nat.min k (n - k) := ⟨_, rfl⟩
    have hj1 : j ≤ k := by rw [hj]; exact Nat.min_le_left _ _
    have hj2 : j ≤ n - k := by rw [hj]; exact Nat.min_le_right _ _
    have hj3 : 1 ≤ j := by rw [hj]; show 1 ≤ min k (n - k); omega
    have hnx := hM L k j hLl (by omega)
    rw [hLt] at hnx
    have hnx2 : List.replicate k x ++ (List.replicate k x).take j ++ L.drop (k + j) = List.replicate (k + j) x ++ List.replicate (n - (k + j)) 0 := by
      rw [List.take_replicate, Nat.min_eq_left hj1, hL, List.drop_append, List.drop_replicate, List.drop_replicate, List.length_replicate, show k - (k + j) = 0 by omega, List.replicate_zero, List.nil_append, show n - k - (k + j - k) = n - (k + j) by omega, List.replicate_append_replicate]
    rw [hnx2, Nat.mul_one k] at hnx
    rw [← hL]
    refine DRun.start (DRun.mix1 (upd_same _ _ _) rfl ?_)
    simp (disch := omega) only [e1, e2, e3, e4, e5, go_sem, ↓if_pos, ne_eq, ↓reduceIte]
    refine DS.wrQ (WrF.copy (new := flat (ints (List.replicate k x))) (m := k) (j := j) (by decide) rfl (upd_same emp b _) (by omega) ?_ hj (.inr ⟨hj1, b, 0, k, n, rfl⟩)) rfl ?_
    · show srcV (upd emp b (flat (ints L))) 1 (.msl b 1 0 k n) = _
      simp only [srcV, if_true, upd_same]
      rw [if_pos (by omega), List.drop_zero, fi_take, hLt]
    · rintro z s ⟨rfl, rfl⟩ _
      rw [upd_upd, hnx]
      simp (disch := omega) only [go_sem, ↓if_pos, ne_eq, ↓reduceIte]
      refine ⟨_, rfl, ?_⟩
      exact ih (k + j) _ _ ⟨by omega, by omega⟩ (by omega) (by simp (disch := omega) only [subT, Int.natCast_add, Int.cast_ofNat_Int, go_sem, ↓if_pos, ne_eq, ↓reduceIte] <;> (repeat' apply And.intro) <;> first | rfl | (congr 1; omega) | assumption) rfl
  · have hkn : k = n := by omega
    subst hkn
    rw [Nat.sub_self, List.replicate_zero, List.append_nil]
    simp (disch := omega) only [go_sem, ↓if_pos, ne_eq, ↓reduceIte]
    refine W_retC c144_ok rfl (Conv.refl _ _) ⟨.inr ⟨b, k, hb, by rw [ints_len, List.length_replicate]; rfl, rfl, by rw [fi_len, ints_len], by rw [ints_len, List.length_replicate]; omega⟩, ints_ok _⟩
end
section
variable {Γ : St} {σ σ0 : St}
theorem importO_len {n : Net} (hn : NetR n) {a b : Int} {r s : Rt} (hk : 0 ≤ linkP n.links a b) (h : importO n a b r = some s) : s.len = r.len + (linkAtP n a b).cost ∧ 0 ≤ s.pref ∧ s.pref ≤ 1000 := by
  have := impGo_in hn.imp h ⟨by simp only; omega, by simp only; omega⟩
  exact ⟨this.2.1, this.2.2⟩
theorem routeO_in {n : Net} (hn : NetR n) {env : List Int} {down : List Bool} {vias : List Int} : ∀ {m : Nat} {r : Int} {x : Rt}, routeO n env down vias m r = some x → 0 ≤ x.len ∧ x.len ≤ 2 + 100 * (m : Int) := by
  intro m
  induction m with
  | zero =>
    intro r x h
    unfold routeO at h
    split at h
    · cases h; simp [noRt]
    split at h
    · split at h
      · cases h; simp
      · cases h
    split at h
    · split at h
      · cases h; simp [outRt]
      · cases h
    · cases h
  | succ m ih =>
    intro r x h
    unfold routeO at h
    split at h
    · cases h; simp [noRt]; omega
    split at h
    · split at h
      · cases h; simp; omega
      · cases h
    split at h
    · split at h
      · cases h; simp [outRt]; omega
      · cases h
    split at h
    · cases h
    rename_i hno
    split at h
    · cases h
    rename_i y hy
    split at h
    · cases h
    · have hlk : 0 ≤ linkP n.links r (vias.getD r.toNat 0) := by
        rcases Int.lt_or_le (linkP n.links r (vias.getD r.toNat 0)) 0 with h1 | h1
        · exact absurd (.inl h1) hno
        · exact h1
      have h1 := importO_len hn hlk h
      have h2 := cost_in hn hlk
      have h3 := ih hy
      omega
theorem rtD_some {r : Rt} : rtD (some r) = r := rfl
set_option maxHeartbeats 1000000 in
theorem routeOf_ok {n : Net} {ex ex2 ex3 : Bool} {env : List Int} {down : List Bool} {vias : List Int} (hn : NetR n) (hdo : ∀ x ∈ n.imports, 1 ≤ x.do_ ∧ x.do_ ≤ 4) (ho : n.origins.length ≤ 1000000000000) (he : env.length = n.externals.length) (hE : (env.all fun x => inB x 0 2) = true) (hd : down.length = n.links.length)
    (hvl : vias.length = n.routers.length) (hv : ∀ i : Nat, i < vias.length → -3 ≤ vias.getD i 0 ∧ vias.getD i 0 < n.routers.length) : ∀ (m : Nat) {Γ σ : St} (r : Nat), r < vias.length → m ≤ vias.length →
    ACalls Try.prog Γ 152 [netV n, .isl ex 1 (ints env), .isl ex2 1 (bools down), .isl ex3 1 (ints vias), .int .i64 r, .int .i64 (vias.length - m : Nat)] σ fun q s => ∃ x, q = .tup [.agg (rtC x), .bool (routeO n env down vias m r).isSome] ∧ (∀ y, routeO n env down vias m r = some y → x = y) ∧ s = σ := by
  have r4 := hn.r4
  have l6 := hn.l6
  have i12 := hn.i12
  have x2 := hn.x2
  have hlen : (netC n).take 6 = netC n := rfl
  have hlen2 : (netC n).length = 6 := rfl
  have hrt4 : ∀ r : Rt, (rtC r).take 4 = rtC r := fun _ => rfl
  have hrt5 : ∀ r : Rt, (rtC r).length = 4 := fun _ => rfl
  have hone : ∀ r : Rt, (∀ c, c ∈ rtC r → c.one = true) = True := fun r => eq_true (rt_one r)
  have hsets : ∀ r : Rt, sets [V.int .i64 0, .int .i64 0, .int .i64 0, .bool false] 0 (rtC r) = rtC r := fun _ => rfl
  have hrt0 : ∀ r : Rt, (rtC r)[0]? = some (.int .i64 r.via) := fun _ => rfl
  intro m
  induction m using Nat.strongRecOn with
  | ind m ih =>
    intro Γ σ r hr hm
    have hR3 : vias.getD r 0 = -3 → routeO n env down vias m r = some noRt := fun h => by cases m <;> (unfold routeO; rw [Int.toNat_natCast, if_pos h])
    have hR2 : vias.getD r 0 = -2 → routeO n env down vias m r = if 0 ≤ hasI n.origins r then some ⟨-2, 200, 0, false⟩ else none := fun h => by cases m <;> (unfold routeO; rw [Int.toNat_natCast, if_neg (by omega), if_pos h])
    have hR1 : vias.getD r 0 = -1 → routeO n env down vias m r = if outB n r env then some (outRt n env r) else none := fun h => by cases m <;> (unfold routeO; rw [Int.toNat_natCast, if_neg (by omega), if_neg (by omega), if_pos h])
    have hRz : 0 ≤ vias.getD r 0 → m = 0 → routeO n env down vias m r = none := fun h e => by subst e; unfold routeO; rw [Int.toNat_natCast, if_neg (by omega), if_neg (by omega), if_neg (by omega)]
    have hRs : 0 ≤ vias.getD r 0 → ∀ k, m = k + 1 → routeO n env down vias m r = if linkP n.links r (vias.getD r 0) < 0 ∨ down.getD (linkP n.links r (vias.getD r 0)).toNat false = true then none
      else match routeO n env down vias k (vias.getD r 0) with
        | none => none
        | some x => if x.via = -3 then none else importO n r (vias.getD r 0) x := fun h k e => by
      subst e
      show (if vias.getD (r : Int).toNat 0 = -3 then some noRt else _) = _
      rw [Int.toNat_natCast, if_neg (by omega), if_neg (by omega), if_neg (by omega)]
      congr 1
    have hvr := hv r hr
    generalize hgv : vias.getD r 0 = v at *
    refine acalls_W c152_ok rfl ?_
    simp (disch := omega) only [c152, netV, go_sem, ↓if_pos, ne_eq, ↓reduceIte]
    refine SRun.boxR (net_one n) ?_
    intro b6 hb6
    simp (disch := omega) only [go_sem, ↓if_pos, ne_eq, ↓reduceIte]
    refine SRun.allocR ?_
    intro b12 hb12
    have n12 := upd_none.1 hb12
    have g12 := fun z => upd_same (upd σ b6 (netC n)) b12 z
    have g6 : ∀ z, upd (upd σ b6 (netC n)) b12 z b6 = some (netC n) := fun z => by rw [upd_ne _ _ n12.1.symm, upd_same]
    have hσ : ∀ z d x, σ d = some x → upd (upd σ b6 (netC n)) b12 z d = some x := fun z => le_two hb6 n12.2 _ _
    simp (disch := omega) only [hgv, go_sem, ↓if_pos, ne_eq, ↓reduceIte]
    by_cases c3 : v = -3
    · have d3 : decide (v = -3) = true := decide_eq_true c3
      simp (disch := omega) only [d3, g12, go_sem, ↓if_pos, ne_eq, ↓reduceIte]
      refine W_retC c152_ok (r := .tup [.agg (rtC noRt), .bool true]) (σ' := σ) (resV_cellT rfl (g12 _) rfl rfl) (Conv.drop _ (hσ _)) ?_
      rw [hR3 c3]
      exact ⟨noRt, rfl, fun y h => by cases h; rfl, rfl⟩
    have d3 : decide (v = -3) = false := decide_eq_false c3
    by_cases c2 : v = -2
    · have d2 : decide (v = -2) = true := decide_eq_true c2
      simp (disch := omega) only [d3, d2, g6, hlen, hlen2, go_sem, ↓if_pos, ne_eq, ↓reduceIte]
      refine SRun.callR (ownRoute_ok (n := n) (r := (r : Int)) ho) ⟨[], rfl, rfl⟩ rfl ?_
      simp (disch := omega) only [g12, hrt5, hone, hsets, go_sem, ↓if_pos, ne_eq, ↓reduceIte]
      refine W_retC c152_ok (r := .tup [.agg (rtC ownR), .bool (decide (0 ≤ hasI n.origins r))]) (σ' := σ) (resV_cellT rfl (g12 _) rfl rfl) (Conv.drop _ (hσ _)) ?_
      rw [hR2 c2]
      refine ⟨ownR, ?_, fun y h => ?_, rfl⟩
      · split <;> rename_i h
        · rw [decide_eq_true h]; rfl
        · rw [decide_eq_false h]; rfl
      · split at h
        · cases h; rfl
        · cases h
    have d2 : decide (v = -2) = false := decide_eq_false c2
    by_cases c1 : v = -1
    · have d1 : decide (v = -1) = true := decide_eq_true c1
      simp (disch := omega) only [d3, d2, d1, g6, hlen, hlen2, go_sem, ↓if_pos, ne_eq, ↓reduceIte]
      refine SRun.callR (outRoute_ok (n := n) (ex := ex) (env := env) (r := (r : Int)) (by omega) he hE) ⟨[], rfl, rfl⟩ rfl ?_
      simp (disch := omega) only [g12, hrt5, hone, hsets, go_sem, ↓if_pos, ne_eq, ↓reduceIte]
      refine W_retC c152_ok (r := .tup [.agg (rtC (outR n r env)), .bool (outB n r env)]) (σ' := σ) (resV_cellT rfl (g12 _) rfl rfl) (Conv.drop _ (hσ _)) ?_
      rw [hR1 c1]
      refine ⟨outR n r env, ?_, fun y h => ?_, rfl⟩
      · split <;> rename_i h
        · rw [h]; rfl
        · rw [Bool.not_eq_true] at h; rw [h]; rfl
      · split at h
        · rename_i h1
          cases h; unfold outR; rw [if_pos h1]; rfl
        · cases h
    have d1 : decide (v = -1) = false := decide_eq_false c1
    have hv0 : 0 ≤ v := by omega
    have hRz := hRz hv0
    have hRs := hRs hv0
    clear hR1 hR2 hR3
    simp (disch := omega) only [d3, d2, d1, g6, hlen, hlen2, go_sem, ↓if_pos, ne_eq, ↓reduceIte]
    refine SRun.callR (linkOf_ok (n := n) (x := (r : Int)) (y := v) (by omega)) ⟨[], rfl, rfl⟩ rfl ?_
    have hlt := (linkP_lt (ls := n.links) (a := (r : Int)) (b := v))
    have hge := (linkP_in n.links (r : Int) v).1
    generalize hat : linkP n.links r v = at_ at *
    have hfail : ∀ (x : Rt), routeO n env down vias m r = none → (∃ z, V.tup [.agg (rtC x), .bool false] = .tup [.agg (rtC z), .bool (routeO n env down vias m r).isSome] ∧ (∀ y, routeO n env down vias m r = some y → z = y) ∧ σ = σ) := fun x h => by
      rw [h]; exact ⟨x, rfl, fun y h => (by cases h), rfl⟩
    cases m with
    | zero =>
      have dm : decide (((vias.length - 0 : Nat) : Int) = vias.length) = true := decide_eq_true (by omega)
      simp (disch := omega) only [dm, g12, go_sem, ↓if_pos, ne_eq, ↓reduceIte]
      exact W_retC c152_ok (r := .tup [.agg (rtC default), .bool false]) (σ' := σ) (resV_cellT rfl (g12 _) rfl rfl) (Conv.drop _ (hσ _)) (hfail _ (hRz rfl))
    | succ m =>
      have dm : decide (((vias.length - (m + 1) : Nat) : Int) = vias.length) = false := decide_eq_false (by omega)
      have hRs := hRs m rfl
      by_cases c4 : at_ < 0
      · have d4 : decide (at_ < 0) = true := decide_eq_true c4
        simp (disch := omega) only [dm, d4, g12, go_sem, ↓if_pos, ne_eq, ↓reduceIte]
        exact W_retC c152_ok (r := .tup [.agg (rtC default), .bool false]) (σ' := σ) (resV_cellT rfl (g12 _) rfl rfl) (Conv.drop _ (hσ _)) (hfail _ (by rw [hRs, if_pos (.inl c4)]))
      have d4 : decide (at_ < 0) = false := decide_eq_false c4
      simp (disch := omega) only [dm, d4, go_sem, ↓if_pos, ne_eq, ↓reduceIte]
      cases hdn : down.getD at_.toNat false with
      | true =>
        simp (disch := omega) only [hdn, g12, go_sem, ↓if_pos, ne_eq, ↓reduceIte]
        exact W_retC c152_ok (r := .tup [.agg (rtC default), .bool false]) (σ' := σ) (resV_cellT rfl (g12 _) rfl rfl) (Conv.drop _ (hσ _)) (hfail _ (by rw [hRs, if_pos (.inr hdn)]))
      | false =>
        rw [if_neg (by rw [hdn]; simp; omega)] at hRs
        simp (disch := omega) only [hdn, g6, hlen, hlen2, go_sem, ↓if_pos, ne_eq, ↓reduceIte]
        obtain ⟨w, rfl⟩ : ∃ w : Nat, v = w := ⟨v.toNat, by omega⟩
        have ec : (((vias.length - (m + 1) : Nat) : Int) + 1) = ((vias.length - m : Nat) : Int) := by omega
        rw [ec]
        refine SRun.callQ (ih m (by omega) w (by omega) (by omega)) ⟨[], rfl, rfl⟩ rfl ?_
        rintro q s ⟨x, rfl, hx, hs⟩
        obtain rfl := hs.symm
        clear ih
        simp (disch := omega) only [go_sem, ↓if_pos, ne_eq, ↓reduceIte]
        generalize hs1 : upd (upd σ b6 (netC n)) b12 [.int .i64 0, .int .i64 0, .int .i64 0, .bool false] = s1 at *
        refine SRun.allocR ?_
        intro b16 hb16
        have g16 := fun z => upd_same s1 b16 z
        have n1612 : b16 ≠ b12 := fun e => by subst e; rw [← hs1, upd_same] at hb16; cases hb16
        have hs112 : s1 b12 = some [.int .i64 0, .int .i64 0, .int .i64 0, .bool false] := by rw [← hs1, upd_same]
        have g612 : ∀ z, upd s1 b16 z b6 = some (netC n) := fun z => by
          rw [upd_ne _ _ (fun e => by subst e; rw [← hs1, g6] at hb16; cases hb16), ← hs1, g6]
        have g1212 : ∀ z, upd s1 b16 z b12 = some [.int .i64 0, .int .i64 0, .int .i64 0, .bool false] := fun z => by rw [upd_ne _ _ n1612.symm, hs112]
        have hσ2 : ∀ z y d c, σ d = some c → upd (upd s1 b16 z) b12 y d = some c := fun z y d c h => by
          have e2 : d ≠ b12 := fun e => by subst e; rw [n12.2] at h; cases h
          rw [upd_ne _ _ e2]
          exact le_upd hb16 _ _ (by rw [← hs1]; exact hσ _ _ _ h)
        cases hro : routeO n env down vias m w with
        | none =>
          rw [hro] at hRs
          simp (disch := omega) only [hrt5, hone, hsets, Option.isSome_none, g16, g1212, go_sem, ↓if_pos, ne_eq, ↓reduceIte]
          exact W_retC c152_ok (r := .tup [.agg (rtC default), .bool false]) (σ' := σ) (resV_cellT rfl (upd_same _ _ _) rfl rfl) (Conv.drop _ (hσ2 _ _)) (hfail _ hRs)
        | some y =>
          have hxy := hx y hro
          subst hxy
          rw [hro] at hRs
          have hRs : routeO n env down vias (m + 1) r = if x.via = -3 then none else importO n r w x := hRs
          have hin := routeO_in hn hro
          by_cases c5 : x.via = -3
          · have d5 : decide (x.via = -3) = true := decide_eq_true c5
            simp (disch := omega) only [hrt5, hone, hsets, Option.isSome_some, g16, g1212, hrt0, d5, go_sem, ↓if_pos, ne_eq, ↓reduceIte]
            exact W_retC c152_ok (r := .tup [.agg (rtC default), .bool false]) (σ' := σ) (resV_cellT rfl (upd_same _ _ _) rfl rfl) (Conv.drop _ (hσ2 _ _)) (hfail _ (by rw [hRs, if_pos c5]))
          · have d5 : decide (x.via = -3) = false := decide_eq_false c5
            rw [if_neg c5] at hRs
            simp (disch := omega) only [hrt5, hone, hsets, Option.isSome_some, g16, g1212, hrt0, d5, g612, hlen, hlen2, hrt4, go_sem, ↓if_pos, ne_eq, ↓reduceIte]
            refine SRun.callR (imported_ok (n := n) (router := (r : Int)) (from_ := (w : Int)) (r := x) (by omega) (by omega) (by omega) (by omega) hn.cost hdo) ⟨[], rfl, rfl⟩ rfl ?_
            simp (disch := omega) only [hrt5, hone, hsets, g1212, go_sem, ↓if_pos, ne_eq, ↓reduceIte]
            refine W_retC c152_ok (r := .tup [.agg (rtC (rtD (importO n r w x))), .bool (importO n r w x).isSome]) (σ' := σ) (resV_cellT rfl (upd_same _ _ _) rfl rfl) (Conv.drop _ (hσ2 _ _)) ?_
            rw [hRs]
            exact ⟨_, rfl, fun y h => by rw [h]; rfl, rfl⟩
end
section
variable {Γ : St} {σ σ0 : St}
/-- What is asked of a network, of what is around it, and of choices. -/
structure Around (n : Net) (env : List Int) (down : List Bool) : Prop where
  net : NetR n
  do_ : ∀ x ∈ n.imports, 1 ≤ x.do_ ∧ x.do_ ≤ 4
  orig : n.origins.length ≤ 1000000000000
  env1 : env.length = n.externals.length
  env2 : (env.all fun x => inB x 0 2) = true
  down : down.length = n.links.length
structure ViasR (n : Net) (vias : List Int) : Prop where
  len : vias.length = n.routers.length
  ok : ∀ i : Nat, i < vias.length → -3 ≤ vias.getD i 0 ∧ vias.getD i 0 < n.routers.length
def routesV (o : Option (List Rt)) : V := match o with | some rs => .tup [.isl false 4 (rtsV rs), .bool true] | none => .tup [.isl true 0 [], .bool false]
theorem routeOf0_ok {n : Net} {ex ex2 ex3 : Bool} {env : List Int} {down : List Bool} {vias : List Int} (ha : Around n env down) (hv : ViasR n vias) (r : Nat) (hr : r < vias.length) :
    ACalls Try.prog Γ 152 [netV n, .isl ex 1 (ints env), .isl ex2 1 (bools down), .isl ex3 1 (ints vias), .int .i64 r, .int .i64 0] σ fun q s => ∃ x, q = .tup [.agg (rtC x), .bool (routeO n env down vias vias.length r).isSome] ∧ (∀ y, routeO n env down vias vias.length r = some y → x = y) ∧ s = σ := by
  have h := routeOf_ok (Γ := Γ) (σ := σ) (ex := ex) (ex2 := ex2) (ex3 := ex3) ha.net ha.do_ ha.orig ha.env1 ha.env2 ha.down hv.len hv.ok vias.length r hr (Nat.le_refl _)
  rw [Nat.sub_self] at h
  exact h
set_option maxHeartbeats 1000000 in
theorem routesOf_own {n : Net} {ex ex2 ex3 : Bool} {env : List Int} {down : List Bool} {vias : List Int} (ha : Around n env down) (hv : ViasR n vias) :
    ACalls Try.prog Γ 103 [netV n, .isl ex 1 (ints env), .isl ex2 1 (bools down), .isl ex3 1 (ints vias)] σ fun q s => (routesO n env down vias = none ∧ q = .tup [.isl true 0 [], .bool false] ∧ s = σ) ∨ ∃ rs r, routesO n env down vias = some rs ∧ q = .tup [r, .bool true] ∧ OwnL σ 4 (rtsV rs) r s := by
  have hn := ha.net
  have r4 := hn.r4
  have hl := hv.len
  have hlen : (netC n).take 6 = netC n := rfl
  have hlen2 : (netC n).length = 6 := rfl
  have hrt4 : ∀ r : Rt, (rtC r).take 4 = rtC r := fun _ => rfl
  have hrt5 : ∀ r : Rt, (rtC r).length = 4 := fun _ => rfl
  have hone : ∀ r : Rt, (∀ c, c ∈ rtC r → c.one = true) = True := fun r => eq_true (rt_one r)
  have hsets : ∀ r : Rt, sets [V.int .i64 0, .int .i64 0, .int .i64 0, .bool false] 0 (rtC r) = rtC r := fun _ => rfl
  have hR : routesO n env down vias = if (List.range vias.length).all (fun (i : Nat) => (routeO n env down vias vias.length i).isSome) then some ((List.range vias.length).map fun (i : Nat) => (routeO n env down vias vias.length i).getD default) else none := rfl
  refine acalls_W c103_ok rfl ?_
  simp (disch := omega) only [c103, netV, go_sem, ↓if_pos, ne_eq, ↓reduceIte]
  refine SRun.boxR (net_one n) ?_
  intro b4 hb4
  have g4 := upd_same σ b4 (netC n)
  have hσ : ∀ d x, σ d = some x → upd σ b4 (netC n) d = some x := le_upd hb4
  simp (disch := omega) only [go_sem, ↓if_pos, ne_eq, ↓reduceIte]
  generalize upd σ b4 (netC n) = s1 at *
  refine W_loopC (α := Nat × V × St × St) (fun p => p.1 ≤ vias.length ∧ (∀ j : Nat, j < p.1 → (routeO n env down vias vias.length j).isSome = true) ∧ (∀ d x, s1 d = some x → p.2.2.1 d = some x) ∧ OwnL p.2.2.1 4 (rtsV ((List.range p.1).map fun (i : Nat) => (routeO n env down vias vias.length i).getD default)) p.2.1 p.2.2.2) (fun p => [(1, .isl ex 1 (ints env)), (2, .isl ex2 1 (bools down)), (3, .isl ex3 1 (ints vias)), (4, .ptr b4 0), (10, p.2.1), (15, .int .i64 vias.length), (16, .int .i64 (p.1 : Nat))]) (fun p => p.2.2.2) (fun p => vias.length - p.1) (0, _, s1, s1) ⟨by simp, fun j hj => by simp only at hj; omega, fun _ _ h => h, OwnL.nil _ 0⟩ (by simp (disch := omega) only [subT, Int.natCast_add, Int.cast_ofNat_Int, go_sem, ↓if_pos, ne_eq, ↓reduceIte] <;> (repeat' apply And.intro) <;> first | rfl | (congr 1; omega) | assumption) rfl ?_
  rintro ⟨i, q, sb, s⟩ ⟨hi, hall, hle, ho1⟩ ih
  dsimp only at hi hall hle ho1
  have g4' := ho1.get (hle _ _ g4)
  simp (disch := omega) only [go_sem, ↓if_pos, ne_eq, ↓reduceIte]
  first | refine iteW_dec (fun h1 => ?_) (fun h1 => ?_) | refine iteW_of (fun h1 => ?_) (fun h1 => ?_)
  · have hi' : i < vias.length := by omega
    simp (disch := omega) only [g4', hlen, hlen2, go_sem, ↓if_pos, ne_eq, ↓reduceIte]
    refine SRun.callQ (routeOf0_ok ha hv i hi') ⟨[], rfl, rfl⟩ rfl ?_
    rintro q2 sx ⟨x, rfl, hx, hs⟩
    obtain rfl := hs.symm
    simp (disch := omega) only [go_sem, ↓if_pos, ne_eq, ↓reduceIte]
    refine SRun.allocR ?_
    intro b12 hb12
    have hsb : sb b12 = none := by
      cases e : sb b12 with
      | none => rfl
      | some c => rw [ho1.get e] at hb12; cases hb12
    have g12 := fun z => upd_same s b12 z
    have hoE := ho1.ext (z := rtC x) hb12
    have hle2 : ∀ d y, s1 d = some y → upd sb b12 (rtC x) d = some y := fun d y h => le_upd hsb _ _ (hle _ _ h)
    have hσ3 : ∀ z d y, σ d = some y → upd s b12 z d = some y := fun z d y h => le_upd hb12 _ _ (ho1.get (hle _ _ (hσ _ _ h)))
    have hsn : (List.range (i + 1)).map (fun (i : Nat) => (routeO n env down vias vias.length i).getD default) = (List.range i).map (fun (i : Nat) => (routeO n env down vias vias.length i).getD default) ++ [(routeO n env down vias vias.length i).getD default] := by rw [List.range_succ, List.map_append]; rfl
    have hpl : ((List.range i).map (fun (i : Nat) => (routeO n env down vias vias.length i).getD default)).length = i := by simp
    cases hro : routeO n env down vias vias.length i with
    | none =>
      have hno : routesO n env down vias = none := by
        rw [hR, if_neg]
        intro h
        have := List.all_eq_true.1 h i (List.mem_range.2 hi')
        rw [hro] at this; cases this
      simp (disch := omega) only [hrt5, hone, hsets, g12, Option.isSome_none, go_sem, ↓if_pos, ne_eq, ↓reduceIte]
      exact W_retC c103_ok (r := .tup [.isl true 0 [], .bool false]) (σ' := σ) rfl (Conv.drop _ (hσ3 _)) (.inl ⟨hno, rfl, rfl⟩)
    | some y =>
      have hxy := hx y hro
      subst hxy
      rw [hro, Option.getD_some] at hsn
      simp (disch := omega) only [hrt5, hone, hsets, g12, Option.isSome_some, hrt4, true_and, go_sem, ↓if_pos, ne_eq, ↓reduceIte]
      refine SRun.appL hoE rfl (rt1_ok x) (by rw [rtsV_len, hpl]; simp only [List.length_singleton]; omega) ?_
      intro q3 s3 ho3
      rw [rts_app, ← hsn] at ho3
      simp (disch := omega) only [go_sem, ↓if_pos, ne_eq, ↓reduceIte]
      refine ih (i + 1, q3, _, s3) _ _ ⟨by simp only; omega, fun j hj => ?_, hle2, ho3⟩ (by simp only; omega) (by simp (disch := omega) only [subT, Int.natCast_add, Int.cast_ofNat_Int, go_sem, ↓if_pos, ne_eq, ↓reduceIte] <;> (repeat' apply And.intro) <;> first | rfl | (congr 1; omega) | assumption) rfl
      by_cases e : j = i
      · subst e; rw [hro]; rfl
      · exact hall j (by simp only at hj; omega)
  · have hil : i = vias.length := by omega
    subst hil
    obtain ⟨s2, hle2, ho2⟩ := ownL_less ho1 (fun d x h => hle _ _ (hσ _ _ h))
    simp (disch := omega) only [go_sem, ↓if_pos, ne_eq, ↓reduceIte]
    refine W_retC c103_ok rfl (Conv.drop _ hle2) (.inr ⟨_, _, ?_, rfl, ho2⟩)
    rw [hR, if_pos]
    rw [List.all_eq_true]
    exact fun j hj => hall j (List.mem_range.1 hj)
theorem routesOf_ok {n : Net} {ex ex2 ex3 : Bool} {env : List Int} {down : List Bool} {vias : List Int} (ha : Around n env down) (hv : ViasR n vias) :
    Ret Try.prog Γ 103 [netV n, .isl ex 1 (ints env), .isl ex2 1 (bools down), .isl ex3 1 (ints vias)] σ (routesV (routesO n env down vias)) σ :=
  ACalls.conv (routesOf_own ha hv) fun q s h => by
    rcases h with ⟨h1, rfl, rfl⟩ | ⟨rs, r, h1, rfl, ho⟩
    · rw [h1]; exact ⟨_, _, Conv.refl _ _, rfl, rfl⟩
    · rw [h1]
      exact ⟨_, σ, ⟨ho.le, frz_tup (by exact ⟨ho.conv.2, .refl _, trivial⟩)⟩, rfl, rfl⟩
end
section
variable {Γ : St} {σ σ0 : St}
/-- Routes of choices that are owned. -/
theorem routesOf_lend {n : Net} {ex ex2 : Bool} {env : List Int} {down : List Bool} {vias : List Int} {q : V} (ha : Around n env down) (hv : ViasR n vias) (hq : Frz σ emp q (.isl false 1 (ints vias))) :
    Ret Try.prog Γ 103 [netV n, .isl ex 1 (ints env), .isl ex2 1 (bools down), q] σ (routesV (routesO n env down vias)) σ :=
  ACalls.conv (ACalls.lend (routesOf_own (σ := emp) (ex := ex) (ex2 := ex2) (ex3 := false) ha hv) rfl (frzL_get (by exact ⟨.refl _, .refl _, .refl _, hq, trivial⟩)) fun r s h => by
    rcases h with ⟨h1, rfl, rfl⟩ | ⟨rs, r, h1, rfl, ho⟩
    · exact ⟨.tup (by intro x hx; simp only [List.mem_cons, List.not_mem_nil, or_false] at hx; rcases hx with rfl | rfl; exact .isl0 _ _; exact .bool _), fun b cs hb => by cases hb⟩
    · have := ownL_plain ho (rts_plain _)
      exact ⟨.tup (by intro x hx; simp only [List.mem_cons, List.not_mem_nil, or_false] at hx; rcases hx with rfl | rfl; exact this.1; exact .bool _), this.2⟩) fun r s h => by
    obtain ⟨s', e, hd, h⟩ := h
    subst e
    rcases h with ⟨h1, rfl, rfl⟩ | ⟨rs, r, h1, rfl, ho⟩
    · rw [h1]; exact ⟨_, σ, ⟨fun _ _ h => h, .refl _⟩, rfl, rfl⟩
    · rw [h1]
      have hj := ownL_join ho hd
      exact ⟨_, σ, ⟨hj.le, frz_tup (by exact ⟨hj.conv.2, .refl _, trivial⟩)⟩, rfl, rfl⟩
theorem routesO_w {n : Net} {env : List Int} {down : List Bool} {vias : List Int} {rs : List Rt} (hn : NetR n) (hv : ViasR n vias) (h : routesO n env down vias = some rs) : rs.length = n.routers.length ∧ RtsW rs := by
  have r1 := hn.r1
  have r4 := hn.r4
  obtain ⟨h1, h2, h3⟩ := routesO_some h
  have hl := hv.len
  refine ⟨by omega, ?_⟩
  have hdf : ∀ v : Int, ¬ v.toNat < rs.length → rtAt rs v = default := fun v hv => by simp [rtAt, List.getD, List.getElem?_eq_none (by omega : rs.length ≤ v.toNat)]
  constructor
  · intro v
    by_cases hvl : v.toNat < rs.length
    · have := routeO_via (h3 v.toNat (by omega))
      rw [Int.toNat_natCast] at this
      have := (hv.ok v.toNat (by omega)).2
      show (rs.getD v.toNat default).via < _
      omega
    · rw [hdf v hvl]; show (0 : Int) < _; omega
  · intro v
    by_cases hvl : v.toNat < rs.length
    · have := routeO_in hn (h3 v.toNat (by omega))
      show 0 ≤ (rs.getD v.toNat default).len ∧ (rs.getD v.toNat default).len ≤ _
      omega
    · rw [hdf v hvl]; show (0 : Int) ≤ 0 ∧ (0 : Int) ≤ _; omega
theorem dig_in {B : Nat} (hB : 0 < B) : ∀ (m t i : Nat), i < m → -3 ≤ (dig B m t).getD i 0 ∧ (dig B m t).getD i 0 < (B : Int) - 3 := by
  intro m
  induction m with
  | zero => intro t i h; omega
  | succ m ih =>
    intro t i h
    by_cases e : i = m
    · subst e
      have : (dig B (i + 1) t).getD i 0 = ((t % B : Nat) : Int) - 3 := by
        have hl := dig_len B i (t / B)
        rw [dig]; simp [List.getD, List.getElem?_append, hl]
      rw [this]
      have := Nat.mod_lt t hB
      omega
    · have : (dig B (m + 1) t).getD i 0 = (dig B m (t / B)).getD i 0 := by
        have hl := dig_len B m (t / B)
        rw [dig]; simp [List.getD, List.getElem?_append, hl, show i < m by omega]
      rw [this]; exact ih _ _ (by omega)
theorem dig_viasR {n : Net} {t : Nat} : ViasR n (dig (n.routers.length + 3) n.routers.length t) := by
  refine ⟨dig_len _ _ _, fun i hi => ?_⟩
  rw [dig_len] at hi
  have := dig_in (B := n.routers.length + 3) (by omega) n.routers.length t i hi
  omega
theorem dig_zero (B : Nat) (hB : 0 < B) (m : Nat) : dig B m 0 = List.replicate m (-3) := by
  have := dig_mul hB 0 0 m
  simpa [dig] using this
/-- The choices while the last ones are set back. -/
def wnd (B L j q : Nat) : List Int := dig B (L - j) q ++ List.replicate j (-3)
theorem wnd_len {B L j q : Nat} (h : j ≤ L) : (wnd B L j q).length = L := by rw [wnd, List.length_append, dig_len, List.length_replicate]; omega
theorem wnd_at {B L j q : Nat} (h : j < L) : (wnd B L j q).getD (L - 1 - j) 0 = ((q % B : Nat) : Int) - 3 := by
  have h1 : L - j = (L - 1 - j) + 1 := by omega
  have hl := dig_len B (L - 1 - j) (q / B)
  rw [wnd, h1, dig]
  simp [List.getD, List.getElem?_append, hl]
theorem wnd_set {B L j q : Nat} (h : j < L) (x : Int) : (wnd B L j q).set (L - 1 - j) x = dig B (L - 1 - j) (q / B) ++ [x] ++ List.replicate j (-3) := by
  have h1 : L - j = (L - 1 - j) + 1 := by omega
  have hl := dig_len B (L - 1 - j) (q / B)
  rw [wnd, h1, dig]
  rw [List.set_append_left _ _ (by simp [hl])]
  congr 1
  rw [List.set_append_right _ _ (by omega), hl]
  simp
theorem wnd_back {B L j q : Nat} (h : j < L) : (wnd B L j q).set (L - 1 - j) (-3) = wnd B L (j + 1) (q / B) := by
  rw [wnd_set h, wnd, List.replicate_succ, show L - (j + 1) = L - 1 - j by omega]
  simp
theorem wnd_next {B L j q t : Nat} (hB : 0 < B) (h : j < L) (hq : q % B + 1 < B) (ht : t + 1 = (q + 1) * B ^ j) : (wnd B L j q).set (L - 1 - j) (((q % B : Nat) : Int) - 3 + 1) = dig B L (t + 1) := by
  rw [wnd_set h, ht]
  have h1 := dig_mul hB (L - j) (q + 1) j
  rw [show L - j + j = L by omega] at h1
  rw [h1, show L - j = (L - 1 - j) + 1 by omega, dig]
  have hd := Nat.div_add_mod q B
  have e1 : (q + 1) / B = q / B := by
    rw [Nat.div_eq_iff hB]
    have := Nat.div_add_mod q B
    rw [Nat.mul_comm] at this
    constructor
    · omega
    · omega
  have e2 : (q + 1) % B = q % B + 1 := by
    have h3 := Nat.div_add_mod (q + 1) B
    rw [e1] at h3; omega
  rw [e1, e2, show ((q % B : Nat) : Int) - 3 + 1 = ((q % B + 1 : Nat) : Int) - 3 by omega]
theorem wnd_step {B j q t : Nat} (hq : q % B + 1 = B) (ht : t + 1 = (q + 1) * B ^ j) : t + 1 = (q / B + 1) * B ^ (j + 1) := by
  have hd := Nat.div_add_mod q B
  rw [ht, Nat.pow_succ, Nat.mul_comm (B ^ j) B, ← Nat.mul_assoc]
  congr 1
  rw [Nat.add_mul, Nat.mul_comm (q / B) B]; omega
theorem wnd_lt {B L j q t : Nat} (hB : 0 < B) (h : j < L) (hq : q % B + 1 < B) (ht : t + 1 = (q + 1) * B ^ j) : t + 1 ≠ B ^ L := by
  intro e
  have h1 : B ^ L = B ^ (L - 1 - j) * B * B ^ j := by rw [← Nat.pow_succ, ← Nat.pow_add]; congr 1; omega
  rw [ht, h1] at e
  have e2 := Nat.eq_of_mul_eq_mul_right (Nat.pow_pos hB) e
  have e3 : (q + 1) % B = 0 := by rw [e2]; exact Nat.mul_mod_left _ _
  have hd := Nat.div_add_mod q B
  have hd2 := Nat.div_add_mod (q + 1) B
  rw [e3] at hd2
  have e4 : (q + 1) / B = q / B := by
    rw [Nat.div_eq_iff hB]
    rw [Nat.mul_comm] at hd
    constructor
    · omega
    · omega
  rw [e4] at hd2
  omega
theorem ints_setN {xs : List Int} {i : Nat} {y : Int} : (ints xs).set i (.int .i64 y) = ints (xs.set i y) := by simp [ints, List.map_set]
theorem getD_is {l : List Int} {i : Nat} (h : i < l.length) : l[i]? = some (l.getD i 0) := by simp [List.getD, h]
set_option maxHeartbeats 2000000 in
theorem stableStates_ok {n : Net} {ex ex2 : Bool} {env : List Int} {down : List Bool} (ha : Around n env down) :
    Ret Try.prog Γ 98 [netV n, .isl ex 1 (ints env), .isl ex2 1 (bools down)] σ (.isl false 1 (staV (statesP n env down))) σ := by
  have hn := ha.net
  have r1 := hn.r1
  have r4 := hn.r4
  have hlen : (netC n).take 6 = netC n := rfl
  have hlen2 : (netC n).length = 6 := rfl
  have e0 : (netC n)[0]? = some (.isl false 1 (strsV n.routers)) := rfl
  refine ret_of c98_ok rfl ?_
  simp (disch := omega) only [c98, netV, go_sem, ↓if_pos, ne_eq, ↓reduceIte]
  refine SRun.boxR (net_one n) ?_
  intro b3 hb3
  have g3 := upd_same σ b3 (netC n)
  have hσ : ∀ d x, σ d = some x → upd σ b3 (netC n) d = some x := le_upd hb3
  simp (disch := omega) only [go_sem, ↓if_pos, ne_eq, ↓reduceIte]
  generalize upd σ b3 (netC n) = s1 at *
  simp (disch := omega) only [g3, e0, go_sem, ↓if_pos, ne_eq, ↓reduceIte]
  refine SRun.callQ (repeatInt_own (n := n.routers.length) ⟨r1, r4⟩ (ex := true) (x := -3)) ⟨[], rfl, rfl⟩ rfl ?_
  intro r s ho
  obtain ⟨b8, cap, rfl, g8, _, hb8, rfl⟩ := ho.at (by rw [ne_eq, List.eq_nil_iff_length_eq_zero, ints_len, List.length_replicate]; omega)
  clear ho
  rw [flat_ints] at g8 ⊢
  rw [ints_len, List.length_replicate, ← dig_zero (n.routers.length + 3) (by omega)] at *
  have hle8 : ∀ d x, s1 d = some x → upd s1 b8 (ints (dig (n.routers.length + 3) n.routers.length 0)) d = some x := le_upd hb8
  have hM : (n.routers.length + 3) ^ n.routers.length ≤ 2401 := by
    rcases (by omega : n.routers.length = 1 ∨ n.routers.length = 2 ∨ n.routers.length = 3 ∨ n.routers.length = 4) with h | h | h | h <;> rw [h] <;> decide
  have hall := states_all (n := n) (env := env) (down := down)
  have hd8 : ∀ t, (dig (n.routers.length + 3) n.routers.length t).length = n.routers.length := fun t => dig_len _ _ _
  have hvr : ∀ t, ViasR n (dig (n.routers.length + 3) n.routers.length t) := fun t => dig_viasR
  have hst : ∀ t, stQ n env down t = (routesO n env down (dig (n.routers.length + 3) n.routers.length t)).bind fun rs => if stableB n env down rs then some rs else none := fun t => rfl
  have hM1 : 1 ≤ (n.routers.length + 3) ^ n.routers.length := Nat.one_le_pow _ _ (by omega)
  generalize hMM : (n.routers.length + 3) ^ n.routers.length = M at *
  simp (disch := omega) only [go_sem, ↓if_pos, ne_eq, ↓reduceIte]
  refine W_loopC (α := Nat × V × St × St) (fun p => p.1 < M ∧ p.2.2.1 b8 = some (ints (dig (n.routers.length + 3) n.routers.length p.1)) ∧ (∀ d x, s1 d = some x → p.2.2.1 d = some x) ∧ OwnL p.2.2.1 1 (staV ((List.range p.1).filterMap (stQ n env down))) p.2.1 p.2.2.2) (fun p => [(1, .isl ex 1 (ints env)), (2, .isl ex2 1 (bools down)), (3, .ptr b3 0), (7, p.2.1), (8, .msl b8 1 0 n.routers.length cap)]) (fun p => p.2.2.2) (fun p => M - p.1) (0, _, _, _) ⟨by simp only; omega, g8, hle8, OwnL.nil _ 0⟩ (by simp (disch := omega) only [subT, Int.natCast_add, Int.cast_ofNat_Int, go_sem, ↓if_pos, ne_eq, ↓reduceIte] <;> (repeat' apply And.intro) <;> first | rfl | (congr 1; omega) | assumption) rfl ?_
  rintro ⟨t, q, sb, s⟩ ⟨ht, g8, hle, ho1⟩ ih
  dsimp only at ht g8 hle ho1
  have g3' := ho1.get (hle _ _ g3)
  have g8' := ho1.get g8
  simp (disch := omega) only [g3', hlen, hlen2, go_sem, ↓if_pos, ne_eq, ↓reduceIte]
  refine SRun.callR (routesOf_lend ha (hvr t) (frz_row g8' rfl (by rw [ints_len, hd8]) (ints_one _))) ⟨[], rfl, rfl⟩ rfl ?_
  have hst := hst t
  have hw := fun rs => routesO_w (rs := rs) hn (hvr t) (env := env) (down := down)
  have hsz : ((List.range t).filterMap (stQ n env down)).length ≤ 2401 := by
    have := List.length_filterMap_le (stQ n env down) (List.range t)
    rw [List.length_range] at this; omega
  have hfm : (List.range (t + 1)).filterMap (stQ n env down) = (List.range t).filterMap (stQ n env down) ++ [t].filterMap (stQ n env down) := by rw [List.range_succ, List.filterMap_append]
  cases hro : routesO n env down (dig (n.routers.length + 3) n.routers.length t) with
  | none =>
    rw [hro, Option.bind_none] at hst
    have hno : [t].filterMap (stQ n env down) = [] := by rw [List.filterMap_cons, hst]; rfl
    rw [hno, List.append_nil] at hfm
    rw [← hfm] at ho1
    have hV : routesV none = .tup [.isl true 0 [], .bool false] := rfl
    rw [hV]
    simp (disch := omega) only [go_sem, ↓if_pos, ne_eq, ↓reduceIte]
    have g8' := ho1.get g8
    refine W_loopC (α := Nat × Nat) (fun p => p.1 ≤ n.routers.length ∧ t + 1 = (p.2 + 1) * (n.routers.length + 3) ^ p.1) (fun p => [(1, .isl ex 1 (ints env)), (2, .isl ex2 1 (bools down)), (3, .ptr b3 0), (7, q), (8, .msl b8 1 0 n.routers.length cap), (11, .int .i64 ((n.routers.length : Int) - 1 - (p.1 : Nat)))]) (fun p => upd s b8 (ints (wnd (n.routers.length + 3) n.routers.length p.1 p.2))) (fun p => n.routers.length - p.1) (0, t) ⟨by simp, by simp⟩ (by simp (disch := omega) only [subT, Int.natCast_add, Int.cast_ofNat_Int, Int.natCast_zero, Int.sub_zero, go_sem, ↓if_pos, ne_eq, ↓reduceIte] <;> (repeat' apply And.intro) <;> first | rfl | (congr 1; omega) | assumption) (by simp only [wnd, Nat.sub_zero, List.replicate_zero, List.append_nil]; exact upd_self s g8') ?_
    rintro ⟨j, qv⟩ ⟨hj, hq⟩ ih2
    dsimp only at hj hq
    have gw := upd_same s b8 (ints (wnd (n.routers.length + 3) n.routers.length j qv))
    have hwl := wnd_len (B := n.routers.length + 3) (q := qv) hj
    by_cases hjl : j < n.routers.length
    · have dk : decide ((n.routers.length : Int) - 1 - j ≥ 0) = true := decide_eq_true (by omega)
      have hk : ((n.routers.length : Int) - 1 - j).toNat = n.routers.length - 1 - j := by omega
      have hat := wnd_at (B := n.routers.length + 3) (q := qv) hjl
      have hat2 : (ints (wnd (n.routers.length + 3) n.routers.length j qv))[n.routers.length - 1 - j]? = some (.int .i64 (((qv % (n.routers.length + 3) : Nat) : Int) - 3)) := ints_get (by rw [← hat]; exact getD_is (by omega))
      have hbk := wnd_back (B := n.routers.length + 3) (q := qv) hjl
      by_cases hmax : qv % (n.routers.length + 3) + 1 = n.routers.length + 3
      · have dm : decide (((qv % (n.routers.length + 3) : Nat) : Int) - 3 = n.routers.length - 1) = true := decide_eq_true (by omega)
        simp (disch := omega) only [dk, gw, hk, hat2, dm, go_sem, ↓if_pos, ne_eq, ↓reduceIte]
        rw [ints_setN, hbk, show (n.routers.length : Int) - 1 - j - 1 = (n.routers.length : Int) - 1 - ((j + 1 : Nat) : Int) by omega]
        exact ih2 (j + 1, qv / (n.routers.length + 3)) _ _ ⟨by simp only; omega, wnd_step hmax hq⟩ (by simp only; omega) (by simp (disch := omega) only [subT, Int.natCast_add, Int.cast_ofNat_Int, go_sem, ↓if_pos, ne_eq, ↓reduceIte] <;> (repeat' apply And.intro) <;> first | rfl | (congr 1; omega) | assumption) rfl
      · have dm : decide (((qv % (n.routers.length + 3) : Nat) : Int) - 3 = n.routers.length - 1) = false := decide_eq_false (by omega)
        have hml := Nat.mod_lt qv (by omega : 0 < n.routers.length + 3)
        simp (disch := omega) only [dk, gw, hk, hat2, dm, go_sem, ↓if_pos, ne_eq, ↓reduceIte]
        rw [ints_setN, wnd_next (by omega) hjl (by omega) hq]
        have hlt := wnd_lt (by omega) hjl (by omega) hq
        rw [hMM] at hlt
        exact ih (t + 1, q, upd sb b8 (ints (dig (n.routers.length + 3) n.routers.length (t + 1))), upd s b8 (ints (dig (n.routers.length + 3) n.routers.length (t + 1)))) _ _ ⟨by simp only; omega, upd_same _ _ _, fun d x h => by
          have e : d ≠ b8 := fun e => by subst e; rw [hb8] at h; cases h
          simp only [upd_ne _ _ e]; exact hle _ _ h, ho1.upd g8⟩ (by simp only; omega) (by simp (disch := omega) only [subT, Int.natCast_add, Int.cast_ofNat_Int, go_sem, ↓if_pos, ne_eq, ↓reduceIte] <;> (repeat' apply And.intro) <;> first | rfl | (congr 1; omega) | assumption) rfl
    · have hjL : j = n.routers.length := by omega
      subst hjL
      have dk : decide ((n.routers.length : Int) - 1 - n.routers.length ≥ 0) = false := decide_eq_false (by omega)
      simp (disch := omega) only [dk, gw, go_sem, ↓if_pos, ne_eq, ↓reduceIte]
      have htM : t + 1 = M := by
        rw [hMM] at hq
        have := Nat.le_mul_of_pos_left M (Nat.succ_pos qv)
        have e : (qv + 1) * M = qv.succ * M := rfl
        omega
      rw [htM, hall] at ho1
      have hoU := ho1.upd (c' := ints (wnd (n.routers.length + 3) n.routers.length n.routers.length qv)) g8
      have hbase : ∀ d x, σ d = some x → upd sb b8 (ints (wnd (n.routers.length + 3) n.routers.length n.routers.length qv)) d = some x := fun d x h => by
        have e : d ≠ b8 := fun e => by subst e; have := hσ _ _ h; rw [hb8] at this; cases this
        rw [upd_ne _ _ e]; exact hle _ _ (hσ _ _ h)
      refine W_retC c98_ok rfl ⟨fun d x h => hoU.le _ _ (hbase _ _ h), hoU.frz (fun _ _ => rfl) fun d h => ?_⟩ ⟨rfl, rfl⟩
      cases e : σ d with
      | none => rfl
      | some x => rw [hbase _ _ e] at h; cases h
  | some rs =>
    rw [hro, Option.bind_some] at hst
    obtain ⟨w1, w2⟩ := hw rs hro
    have hV : routesV (some rs) = .tup [.isl false 4 (rtsV rs), .bool true] := rfl
    rw [hV]
    simp (disch := omega) only [g3', hlen, hlen2, go_sem, ↓if_pos, ne_eq, ↓reduceIte]
    refine SRun.callR (isStable_ok (ex := ex) (ex2 := ex2) (ex3 := false) hn ha.do_ ha.orig ha.env1 ha.env2 ha.down w1 w2) ⟨[], rfl, rfl⟩ rfl ?_
    cases hsb : stableB n env down rs with
    | false =>
      have hno : [t].filterMap (stQ n env down) = [] := by rw [List.filterMap_cons, hst]; simp [hsb]
      rw [hno, List.append_nil] at hfm
      rw [← hfm] at ho1
      simp (disch := omega) only [go_sem, ↓if_pos, ne_eq, ↓reduceIte]
      have g8' := ho1.get g8
      refine W_loopC (α := Nat × Nat) (fun p => p.1 ≤ n.routers.length ∧ t + 1 = (p.2 + 1) * (n.routers.length + 3) ^ p.1) (fun p => [(1, .isl ex 1 (ints env)), (2, .isl ex2 1 (bools down)), (3, .ptr b3 0), (7, q), (8, .msl b8 1 0 n.routers.length cap), (11, .int .i64 ((n.routers.length : Int) - 1 - (p.1 : Nat)))]) (fun p => upd s b8 (ints (wnd (n.routers.length + 3) n.routers.length p.1 p.2))) (fun p => n.routers.length - p.1) (0, t) ⟨by simp, by simp⟩ (by simp (disch := omega) only [subT, Int.natCast_add, Int.cast_ofNat_Int, Int.natCast_zero, Int.sub_zero, go_sem, ↓if_pos, ne_eq, ↓reduceIte] <;> (repeat' apply And.intro) <;> first | rfl | (congr 1; omega) | assumption) (by simp only [wnd, Nat.sub_zero, List.replicate_zero, List.append_nil]; exact upd_self s g8') ?_
      rintro ⟨j, qv⟩ ⟨hj, hq⟩ ih2
      dsimp only at hj hq
      have gw := upd_same s b8 (ints (wnd (n.routers.length + 3) n.routers.length j qv))
      have hwl := wnd_len (B := n.routers.length + 3) (q := qv) hj
      by_cases hjl : j < n.routers.length
      · have dk : decide ((n.routers.length : Int) - 1 - j ≥ 0) = true := decide_eq_true (by omega)
        have hk : ((n.routers.length : Int) - 1 - j).toNat = n.routers.length - 1 - j := by omega
        have hat := wnd_at (B := n.routers.length + 3) (q := qv) hjl
        have hat2 : (ints (wnd (n.routers.length + 3) n.routers.length j qv))[n.routers.length - 1 - j]? = some (.int .i64 (((qv % (n.routers.length + 3) : Nat) : Int) - 3)) := ints_get (by rw [← hat]; exact getD_is (by omega))
        have hbk := wnd_back (B := n.routers.length + 3) (q := qv) hjl
        by_cases hmax : qv % (n.routers.length + 3) + 1 = n.routers.length + 3
        · have dm : decide (((qv % (n.routers.length + 3) : Nat) : Int) - 3 = n.routers.length - 1) = true := decide_eq_true (by omega)
          simp (disch := omega) only [dk, gw, hk, hat2, dm, go_sem, ↓if_pos, ne_eq, ↓reduceIte]
          rw [ints_setN, hbk, show (n.routers.length : Int) - 1 - j - 1 = (n.routers.length : Int) - 1 - ((j + 1 : Nat) : Int) by omega]
          exact ih2 (j + 1, qv / (n.routers.length + 3)) _ _ ⟨by simp only; omega, wnd_step hmax hq⟩ (by simp only; omega) (by simp (disch := omega) only [subT, Int.natCast_add, Int.cast_ofNat_Int, go_sem, ↓if_pos, ne_eq, ↓reduceIte] <;> (repeat' apply And.intro) <;> first | rfl | (congr 1; omega) | assumption) rfl
        · have dm : decide (((qv % (n.routers.length + 3) : Nat) : Int) - 3 = n.routers.length - 1) = false := decide_eq_false (by omega)
          have hml := Nat.mod_lt qv (by omega : 0 < n.routers.length + 3)
          simp (disch := omega) only [dk, gw, hk, hat2, dm, go_sem, ↓if_pos, ne_eq, ↓reduceIte]
          rw [ints_setN, wnd_next (by omega) hjl (by omega) hq]
          have hlt := wnd_lt (by omega) hjl (by omega) hq
          rw [hMM] at hlt
          exact ih (t + 1, q, upd sb b8 (ints (dig (n.routers.length + 3) n.routers.length (t + 1))), upd s b8 (ints (dig (n.routers.length + 3) n.routers.length (t + 1)))) _ _ ⟨by simp only; omega, upd_same _ _ _, fun d x h => by
            have e : d ≠ b8 := fun e => by subst e; rw [hb8] at h; cases h
            simp only [upd_ne _ _ e]; exact hle _ _ h, ho1.upd g8⟩ (by simp only; omega) (by simp (disch := omega) only [subT, Int.natCast_add, Int.cast_ofNat_Int, go_sem, ↓if_pos, ne_eq, ↓reduceIte] <;> (repeat' apply And.intro) <;> first | rfl | (congr 1; omega) | assumption) rfl
      · have hjL : j = n.routers.length := by omega
        subst hjL
        have dk : decide ((n.routers.length : Int) - 1 - n.routers.length ≥ 0) = false := decide_eq_false (by omega)
        simp (disch := omega) only [dk, gw, go_sem, ↓if_pos, ne_eq, ↓reduceIte]
        have htM : t + 1 = M := by
          rw [hMM] at hq
          have := Nat.le_mul_of_pos_left M (Nat.succ_pos qv)
          have e : (qv + 1) * M = qv.succ * M := rfl
          omega
        rw [htM, hall] at ho1
        have hoU := ho1.upd (c' := ints (wnd (n.routers.length + 3) n.routers.length n.routers.length qv)) g8
        have hbase : ∀ d x, σ d = some x → upd sb b8 (ints (wnd (n.routers.length + 3) n.routers.length n.routers.length qv)) d = some x := fun d x h => by
          have e : d ≠ b8 := fun e => by subst e; have := hσ _ _ h; rw [hb8] at this; cases this
          rw [upd_ne _ _ e]; exact hle _ _ (hσ _ _ h)
        refine W_retC c98_ok rfl ⟨fun d x h => hoU.le _ _ (hbase _ _ h), hoU.frz (fun _ _ => rfl) fun d h => ?_⟩ ⟨rfl, rfl⟩
        cases e : σ d with
        | none => rfl
        | some x => rw [hbase _ _ e] at h; cases h
    | true =>
      have hno : [t].filterMap (stQ n env down) = [rs] := by rw [List.filterMap_cons, hst]; simp [hsb]
      rw [hno] at hfm
      simp (disch := omega) only [go_sem, ↓if_pos, ne_eq, ↓reduceIte]
      refine SRun.appL ho1 rfl (sta1_ok rs) (by rw [staV_len]; simp only [List.length_singleton]; omega) ?_
      clear ho1 g3' g8'
      intro q s ho1
      rw [staV_app, ← hfm] at ho1
      simp (disch := omega) only [go_sem, ↓if_pos, ne_eq, ↓reduceIte]
      have g8' := ho1.get g8
      refine W_loopC (α := Nat × Nat) (fun p => p.1 ≤ n.routers.length ∧ t + 1 = (p.2 + 1) * (n.routers.length + 3) ^ p.1) (fun p => [(1, .isl ex 1 (ints env)), (2, .isl ex2 1 (bools down)), (3, .ptr b3 0), (7, q), (8, .msl b8 1 0 n.routers.length cap), (11, .int .i64 ((n.routers.length : Int) - 1 - (p.1 : Nat)))]) (fun p => upd s b8 (ints (wnd (n.routers.length + 3) n.routers.length p.1 p.2))) (fun p => n.routers.length - p.1) (0, t) ⟨by simp, by simp⟩ (by simp (disch := omega) only [subT, Int.natCast_add, Int.cast_ofNat_Int, Int.natCast_zero, Int.sub_zero, go_sem, ↓if_pos, ne_eq, ↓reduceIte] <;> (repeat' apply And.intro) <;> first | rfl | (congr 1; omega) | assumption) (by simp only [wnd, Nat.sub_zero, List.replicate_zero, List.append_nil]; exact upd_self s g8') ?_
      rintro ⟨j, qv⟩ ⟨hj, hq⟩ ih2
      dsimp only at hj hq
      have gw := upd_same s b8 (ints (wnd (n.routers.length + 3) n.routers.length j qv))
      have hwl := wnd_len (B := n.routers.length + 3) (q := qv) hj
      by_cases hjl : j < n.routers.length
      · have dk : decide ((n.routers.length : Int) - 1 - j ≥ 0) = true := decide_eq_true (by omega)
        have hk : ((n.routers.length : Int) - 1 - j).toNat = n.routers.length - 1 - j := by omega
        have hat := wnd_at (B := n.routers.length + 3) (q := qv) hjl
        have hat2 : (ints (wnd (n.routers.length + 3) n.routers.length j qv))[n.routers.length - 1 - j]? = some (.int .i64 (((qv % (n.routers.length + 3) : Nat) : Int) - 3)) := ints_get (by rw [← hat]; exact getD_is (by omega))
        have hbk := wnd_back (B := n.routers.length + 3) (q := qv) hjl
        by_cases hmax : qv % (n.routers.length + 3) + 1 = n.routers.length + 3
        · have dm : decide (((qv % (n.routers.length + 3) : Nat) : Int) - 3 = n.routers.length - 1) = true := decide_eq_true (by omega)
          simp (disch := omega) only [dk, gw, hk, hat2, dm, go_sem, ↓if_pos, ne_eq, ↓reduceIte]
          rw [ints_setN, hbk, show (n.routers.length : Int) - 1 - j - 1 = (n.routers.length : Int) - 1 - ((j + 1 : Nat) : Int) by omega]
          exact ih2 (j + 1, qv / (n.routers.length + 3)) _ _ ⟨by simp only; omega, wnd_step hmax hq⟩ (by simp only; omega) (by simp (disch := omega) only [subT, Int.natCast_add, Int.cast_ofNat_Int, go_sem, ↓if_pos, ne_eq, ↓reduceIte] <;> (repeat' apply And.intro) <;> first | rfl | (congr 1; omega) | assumption) rfl
        · have dm : decide (((qv % (n.routers.length + 3) : Nat) : Int) - 3 = n.routers.length - 1) = false := decide_eq_false (by omega)
          have hml := Nat.mod_lt qv (by omega : 0 < n.routers.length + 3)
          simp (disch := omega) only [dk, gw, hk, hat2, dm, go_sem, ↓if_pos, ne_eq, ↓reduceIte]
          rw [ints_setN, wnd_next (by omega) hjl (by omega) hq]
          have hlt := wnd_lt (by omega) hjl (by omega) hq
          rw [hMM] at hlt
          exact ih (t + 1, q, upd sb b8 (ints (dig (n.routers.length + 3) n.routers.length (t + 1))), upd s b8 (ints (dig (n.routers.length + 3) n.routers.length (t + 1)))) _ _ ⟨by simp only; omega, upd_same _ _ _, fun d x h => by
            have e : d ≠ b8 := fun e => by subst e; rw [hb8] at h; cases h
            simp only [upd_ne _ _ e]; exact hle _ _ h, ho1.upd g8⟩ (by simp only; omega) (by simp (disch := omega) only [subT, Int.natCast_add, Int.cast_ofNat_Int, go_sem, ↓if_pos, ne_eq, ↓reduceIte] <;> (repeat' apply And.intro) <;> first | rfl | (congr 1; omega) | assumption) rfl
      · have hjL : j = n.routers.length := by omega
        subst hjL
        have dk : decide ((n.routers.length : Int) - 1 - n.routers.length ≥ 0) = false := decide_eq_false (by omega)
        simp (disch := omega) only [dk, gw, go_sem, ↓if_pos, ne_eq, ↓reduceIte]
        have htM : t + 1 = M := by
          rw [hMM] at hq
          have := Nat.le_mul_of_pos_left M (Nat.succ_pos qv)
          have e : (qv + 1) * M = qv.succ * M := rfl
          omega
        rw [htM, hall] at ho1
        have hoU := ho1.upd (c' := ints (wnd (n.routers.length + 3) n.routers.length n.routers.length qv)) g8
        have hbase : ∀ d x, σ d = some x → upd sb b8 (ints (wnd (n.routers.length + 3) n.routers.length n.routers.length qv)) d = some x := fun d x h => by
          have e : d ≠ b8 := fun e => by subst e; have := hσ _ _ h; rw [hb8] at this; cases this
          rw [upd_ne _ _ e]; exact hle _ _ (hσ _ _ h)
        refine W_retC c98_ok rfl ⟨fun d x h => hoU.le _ _ (hbase _ _ h), hoU.frz (fun _ _ => rfl) fun d h => ?_⟩ ⟨rfl, rfl⟩
        cases e : σ d with
        | none => rfl
        | some x => rw [hbase _ _ e] at h; cases h
end
section
variable {Γ : St} {σ σ0 : St}
/-- A right network, and what is right around it. -/
structure Fine (n : Net) (env : List Int) (down : List Bool) : Prop where
  len : NetLen n
  net : netB n = true
  env : envB n env down = true
theorem Fine.around {n : Net} {env : List Int} {down : List Bool} (h : Fine n env down) : Around n env down := by
  have h2 := h.env
  simp only [envB, Bool.and_eq_true, decide_eq_true_eq] at h2
  exact ⟨netR_of h.net, net_do h.net, h.len.origins, h2.1.1, h2.2, h2.1.2⟩
theorem Fine.code {n : Net} {env : List Int} {down : List Bool} (h : Fine n env down) : envCode n env down = 0 := by
  have a := h.around
  have r4 := a.net.r4
  have l6 := a.net.l6
  have x2 := a.net.x2
  have e1 := a.env1
  have e2 := a.down
  unfold envCode
  rw [if_neg (by omega), if_neg (by rw [h.net]; simp), if_pos h.env]
theorem routesCode1_ok {n : Net} {ex ex2 ex3 : Bool} {env : List Int} {down : List Bool} {rs : List Rt} (h : Fine n env down) (hr : rtsB n rs = true) :
    Ret Try.prog Γ 65 [netV n, .isl ex 1 (ints env), .isl ex2 1 (bools down), .isl ex3 4 (rtsV rs), .bool true] σ (.int .i64 0) σ := by
  have a := h.around
  have r4 := a.net.r4
  have l6 := a.net.l6
  have x2 := a.net.x2
  have q1 := a.env1
  have q2 := a.down
  have hr1 := hr
  simp only [rtsB, Bool.and_eq_true, decide_eq_true_eq] at hr1
  have hrl := hr1.1
  have hlen : (netC n).take 6 = netC n := rfl
  have hlen2 : (netC n).length = 6 := rfl
  refine ret_of c65_ok rfl ?_
  simp (disch := omega) only [c65, netV, go_sem, ↓if_pos, ne_eq, ↓reduceIte]
  refine SRun.boxR (net_one n) ?_
  intro b5 hb5
  have g5 := upd_same σ b5 (netC n)
  have hσ : ∀ d x, σ d = some x → upd σ b5 (netC n) d = some x := le_upd hb5
  simp (disch := omega) only [go_sem, ↓if_pos, ne_eq, ↓reduceIte]
  generalize upd σ b5 (netC n) = s1 at *
  have d1 : decide ((env.length : Int) > 4096) = false := decide_eq_false (by omega)
  have d2 : decide ((down.length : Int) > 4096) = false := decide_eq_false (by omega)
  have d3 : decide ((rs.length : Int) > 4096) = false := decide_eq_false (by omega)
  simp (disch := omega) only [d1, d2, d3, g5, hlen, hlen2, go_sem, ↓if_pos, ne_eq, ↓reduceIte]
  refine SRun.callR (isNet_ok h.len) ⟨[], rfl, rfl⟩ rfl ?_
  rw [h.net]
  simp (disch := omega) only [g5, hlen, hlen2, go_sem, ↓if_pos, ne_eq, ↓reduceIte]
  refine SRun.callR (isAround_ok h.len (by omega) (by omega)) ⟨[], rfl, rfl⟩ rfl ?_
  rw [h.env]
  simp (disch := omega) only [g5, hlen, hlen2, go_sem, ↓if_pos, ne_eq, ↓reduceIte]
  refine SRun.callR (areRoutes_ok (ex := ex3) (rs := rs) a.net (by omega)) ⟨[], rfl, rfl⟩ rfl ?_
  rw [hr]
  simp (disch := omega) only [go_sem, ↓if_pos, ne_eq, ↓reduceIte]
  exact W_retC c65_ok rfl (Conv.drop _ hσ) ⟨rfl, rfl⟩
theorem StableStates_ok {n : Net} {ex ex2 : Bool} {env : List Int} {down : List Bool} (h : Fine n env down) :
    Ret Try.prog Γ 35 [netV n, .isl ex 1 (ints env), .isl ex2 1 (bools down)] σ (.tup [.isl false 1 (staV (statesP n env down)), .int .i64 0]) σ := by
  have a := h.around
  have r4 := a.net.r4
  have l6 := a.net.l6
  have x2 := a.net.x2
  have q1 := a.env1
  have q2 := a.down
  have hlen : (netC n).take 6 = netC n := rfl
  have hlen2 : (netC n).length = 6 := rfl
  have hC := fun Γ σ => routesCode_ok (Γ := Γ) (σ := σ) (ex := ex) (ex2 := ex2) (env := env) (down := down) h.len (by omega) (by omega)
  rw [h.code] at hC
  refine ret_of c35_ok rfl ?_
  simp (disch := omega) only [c35, netV, go_sem, ↓if_pos, ne_eq, ↓reduceIte]
  refine SRun.boxR (net_one n) ?_
  intro b3 hb3
  have g3 := upd_same σ b3 (netC n)
  have hσ : ∀ d x, σ d = some x → upd σ b3 (netC n) d = some x := le_upd hb3
  simp (disch := omega) only [go_sem, ↓if_pos, ne_eq, ↓reduceIte]
  generalize upd σ b3 (netC n) = s1 at *
  simp (disch := omega) only [g3, hlen, hlen2, go_sem, ↓if_pos, ne_eq, ↓reduceIte]
  refine SRun.callR (hC _ _) ⟨[], rfl, rfl⟩ rfl ?_
  simp (disch := omega) only [g3, hlen, hlen2, go_sem, ↓if_pos, ne_eq, ↓reduceIte]
  refine SRun.callR (stableStates_ok (ex := ex) (ex2 := ex2) a) ⟨[], rfl, rfl⟩ rfl ?_
  simp (disch := omega) only [go_sem, ↓if_pos, ne_eq, ↓reduceIte]
  exact W_retC c35_ok rfl (Conv.drop _ hσ) ⟨rfl, rfl⟩
theorem IsStable_ok {n : Net} {ex ex2 ex3 : Bool} {env : List Int} {down : List Bool} {rs : List Rt} (h : Fine n env down) (hr : rtsB n rs = true) (hw : RtsW rs) :
    Ret Try.prog Γ 36 [netV n, .isl ex 1 (ints env), .isl ex2 1 (bools down), .isl ex3 4 (rtsV rs)] σ (.tup [.bool (stableB n env down rs), .int .i64 0]) σ := by
  have a := h.around
  have hr1 := hr
  simp only [rtsB, Bool.and_eq_true, decide_eq_true_eq] at hr1
  have hrl := hr1.1
  have hlen : (netC n).take 6 = netC n := rfl
  have hlen2 : (netC n).length = 6 := rfl
  refine ret_of c36_ok rfl ?_
  simp (disch := omega) only [c36, netV, go_sem, ↓if_pos, ne_eq, ↓reduceIte]
  refine SRun.boxR (net_one n) ?_
  intro b3 hb3
  have g3 := upd_same σ b3 (netC n)
  have hσ : ∀ d x, σ d = some x → upd σ b3 (netC n) d = some x := le_upd hb3
  simp (disch := omega) only [go_sem, ↓if_pos, ne_eq, ↓reduceIte]
  generalize upd σ b3 (netC n) = s1 at *
  simp (disch := omega) only [g3, hlen, hlen2, go_sem, ↓if_pos, ne_eq, ↓reduceIte]
  refine SRun.callR (routesCode1_ok h hr) ⟨[], rfl, rfl⟩ rfl ?_
  simp (disch := omega) only [g3, hlen, hlen2, go_sem, ↓if_pos, ne_eq, ↓reduceIte]
  refine SRun.callR (isStable_ok a.net a.do_ a.orig a.env1 a.env2 a.down hrl hw) ⟨[], rfl, rfl⟩ rfl ?_
  simp (disch := omega) only [go_sem, ↓if_pos, ne_eq, ↓reduceIte]
  exact W_retC c36_ok rfl (Conv.drop _ hσ) ⟨rfl, rfl⟩
theorem Candidates_ok {n : Net} {ex ex2 ex3 : Bool} {env : List Int} {down : List Bool} {rs : List Rt} {i : Nat} (h : Fine n env down) (hr : rtsB n rs = true) (hw : RtsW rs) (hi : i < n.routers.length) :
    Ret Try.prog Γ 37 [netV n, .int .i64 i, .isl ex 1 (ints env), .isl ex2 1 (bools down), .isl ex3 4 (rtsV rs)] σ (.tup [.isl false 4 (rtsV (candP n i env down rs)), .int .i64 0]) σ := by
  have a := h.around
  have r4 := a.net.r4
  have hr1 := hr
  simp only [rtsB, Bool.and_eq_true, decide_eq_true_eq] at hr1
  have hrl := hr1.1
  have hlen : (netC n).take 6 = netC n := rfl
  have hlen2 : (netC n).length = 6 := rfl
  refine ret_of c37_ok rfl ?_
  simp (disch := omega) only [c37, netV, go_sem, ↓if_pos, ne_eq, ↓reduceIte]
  refine SRun.boxR (net_one n) ?_
  intro b3 hb3
  have g3 := upd_same σ b3 (netC n)
  have hσ : ∀ d x, σ d = some x → upd σ b3 (netC n) d = some x := le_upd hb3
  simp (disch := omega) only [go_sem, ↓if_pos, ne_eq, ↓reduceIte]
  generalize upd σ b3 (netC n) = s1 at *
  simp (disch := omega) only [g3, hlen, hlen2, go_sem, ↓if_pos, ne_eq, ↓reduceIte]
  refine SRun.callR (routesCode1_ok h hr) ⟨[], rfl, rfl⟩ rfl ?_
  simp (disch := omega) only [g3, hlen, hlen2, go_sem, ↓if_pos, ne_eq, ↓reduceIte]
  refine SRun.callR (isRouter_ok (by omega)) ⟨[], rfl, rfl⟩ rfl ?_
  have hri : routerB n.routers.length (i : Int) = true := by simp [routerB, inB]; omega
  rw [hri]
  simp (disch := omega) only [g3, hlen, hlen2, go_sem, ↓if_pos, ne_eq, ↓reduceIte]
  refine SRun.callR (candidates_ok a.net a.do_ a.orig a.env1 a.env2 a.down hrl hw (by omega)) ⟨[], rfl, rfl⟩ rfl ?_
  simp (disch := omega) only [go_sem, ↓if_pos, ne_eq, ↓reduceIte]
  exact W_retC c37_ok rfl (Conv.drop _ hσ) ⟨rfl, rfl⟩
theorem BestRoute_ok {ex : Bool} {l : List Rt} (hl : l.length ≤ 4096) : Ret Try.prog Γ 38 [.isl ex 4 (rtsV l)] σ (if l = [] then .tup [.agg (rtC default), .int .i64 6] else .tup [.agg (rtC (firstBest l)), .int .i64 0]) σ := by
  have hrt5 : ∀ r : Rt, (rtC r).length = 4 := fun _ => rfl
  have hone : ∀ r : Rt, (∀ c, c ∈ rtC r → c.one = true) = True := fun r => eq_true (rt_one r)
  have hsets : ∀ r : Rt, sets [V.int .i64 0, .int .i64 0, .int .i64 0, .bool false] 0 (rtC r) = rtC r := fun _ => rfl
  refine ret_of c38_ok rfl ?_
  simp (disch := omega) only [c38, go_sem, ↓if_pos, ne_eq, ↓reduceIte]
  refine SRun.allocR ?_
  intro b2 hb2
  have g2 := fun z => upd_same σ b2 z
  have hσ := fun z => le_upd (σ := σ) (cs := z) hb2
  have d1 : decide ((l.length : Int) > 4096) = false := decide_eq_false (by omega)
  by_cases c2 : l = []
  · subst c2
    simp (disch := omega) only [g2, go_sem, ↓if_pos, ne_eq, ↓reduceIte]
    exact W_retC c38_ok (r := .tup [.agg (rtC default), .int .i64 6]) (σ' := σ) (resV_cellT rfl (g2 _) rfl rfl) (Conv.drop _ (hσ _)) ⟨rfl, rfl⟩
  · have hl0 : 0 < l.length := List.length_pos_iff.2 c2
    have d2 : decide ((l.length : Int) = 0) = false := decide_eq_false (by omega)
    rw [if_neg c2]
    simp (disch := omega) only [d1, d2, go_sem, ↓if_pos, ne_eq, ↓reduceIte]
    refine SRun.callR (bestRoute_ok (ex := ex) (l := l) (by omega) c2) ⟨[], rfl, rfl⟩ rfl ?_
    simp (disch := omega) only [g2, hrt5, hone, hsets, go_sem, ↓if_pos, ne_eq, ↓reduceIte]
    exact W_retC c38_ok (r := .tup [.agg (rtC (firstBest l)), .int .i64 0]) (σ' := σ) (resV_cellT rfl (g2 _) rfl rfl) (Conv.drop _ (hσ _)) ⟨rfl, rfl⟩
theorem Neighbours_ok {n : Net} {ex : Bool} {down : List Bool} {i : Nat} (hN : NetLen n) (hB : netB n = true) (hd : down.length = n.links.length) (hi : i < n.routers.length) :
    Ret Try.prog Γ 39 [netV n, .int .i64 i, .isl ex 1 (bools down)] σ (.tup [.isl false 1 (ints (nearP n i down)), .int .i64 0]) σ := by
  have hn := netR_of hB
  have r4 := hn.r4
  have l6 := hn.l6
  have hlen : (netC n).take 6 = netC n := rfl
  have hlen2 : (netC n).length = 6 := rfl
  have e1 : (netC n)[1]? = some (.isl false 3 (linksV n.links)) := rfl
  have d1 : decide ((down.length : Int) > 4096) = false := decide_eq_false (by omega)
  have d2 : (decide ¬ (down.length : Int) = n.links.length) = false := decide_eq_false (by omega)
  refine ret_of c39_ok rfl ?_
  simp (disch := omega) only [c39, netV, go_sem, ↓if_pos, ne_eq, ↓reduceIte]
  refine SRun.boxR (net_one n) ?_
  intro b3 hb3
  have g3 := upd_same σ b3 (netC n)
  have hσ : ∀ d x, σ d = some x → upd σ b3 (netC n) d = some x := le_upd hb3
  simp (disch := omega) only [go_sem, ↓if_pos, ne_eq, ↓reduceIte]
  generalize upd σ b3 (netC n) = s1 at *
  simp (disch := omega) only [g3, hlen, hlen2, d1, go_sem, ↓if_pos, ne_eq, ↓reduceIte]
  refine SRun.callR (isNet_ok hN) ⟨[], rfl, rfl⟩ rfl ?_
  rw [hB]
  simp (disch := omega) only [g3, hlen, hlen2, go_sem, ↓if_pos, ne_eq, ↓reduceIte]
  refine SRun.callR (isRouter_ok (by omega)) ⟨[], rfl, rfl⟩ rfl ?_
  have hri : routerB n.routers.length (i : Int) = true := by simp [routerB, inB]; omega
  rw [hri]
  simp (disch := omega) only [g3, hlen, hlen2, e1, d2, go_sem, ↓if_pos, ne_eq, ↓reduceIte]
  refine SRun.callR (neighbours_ok (ex := ex) (by omega) (by omega) hd) ⟨[], rfl, rfl⟩ rfl ?_
  simp (disch := omega) only [go_sem, ↓if_pos, ne_eq, ↓reduceIte]
  exact W_retC c39_ok rfl (Conv.drop _ hσ) ⟨rfl, rfl⟩
theorem areVias1_ok {n : Net} {b : Nat} {x : Int} (hn : NetR n) (hb : σ b = some (netC n)) : Ret Try.prog Γ 151 [.int .i64 x, .ptr b 0] σ (.bool (!inB x (-3) (n.routers.length - 1))) σ := by
  have r1 := hn.r1
  have r4 := hn.r4
  have e0 : (netC n)[0]? = some (.isl false 1 (strsV n.routers)) := rfl
  refine ret_of c151_ok rfl ?_
  simp (disch := omega) only [c151, go_sem, ↓if_pos, ne_eq, ↓reduceIte]
  simp (disch := omega) only [hb, e0, go_sem, ↓if_pos, ne_eq, ↓reduceIte]
  refine SRun.callR (within_ok x (-3) (n.routers.length - 1)) ⟨[], rfl, rfl⟩ rfl ?_
  simp (disch := omega) only [go_sem, ↓if_pos, ne_eq, ↓reduceIte]
  exact W_retR c151_ok rfl ⟨rfl, rfl⟩
theorem areVias_ok {n : Net} {ex : Bool} {vias : List Int} (hn : NetR n) (hv : ViasR n vias) : Ret Try.prog Γ 102 [netV n, .isl ex 1 (ints vias)] σ (.bool true) σ := by
  have r4 := hn.r4
  have hl := hv.len
  have e0 : (netC n)[0]? = some (.isl false 1 (strsV n.routers)) := rfl
  refine ret_of c102_ok rfl ?_
  simp (disch := omega) only [c102, netV, go_sem, ↓if_pos, ne_eq, ↓reduceIte]
  refine SRun.boxR (net_one n) ?_
  intro b2 hb2
  have g2 := upd_same σ b2 (netC n)
  have hσ : ∀ d x, σ d = some x → upd σ b2 (netC n) d = some x := le_upd hb2
  simp (disch := omega) only [go_sem, ↓if_pos, ne_eq, ↓reduceIte]
  generalize upd σ b2 (netC n) = s1 at *
  have d1 : decide ((vias.length : Int) = n.routers.length) = true := decide_eq_true (by omega)
  simp (disch := omega) only [g2, e0, d1, go_sem, ↓if_pos, ne_eq, ↓reduceIte]
  refine SRun.callR (containsFInt_ok (ex := ex) (xs := vias) (F := 151) (caps := [.ptr b2 0]) (p := fun x => !inB x (-3) (n.routers.length - 1)) (by omega) fun x _ => areVias1_ok hn g2) ⟨[], rfl, rfl⟩ rfl ?_
  have hno : (vias.any fun x => !inB x (-3) (n.routers.length - 1)) = false := by
    rw [List.any_eq_false]
    intro x hx
    obtain ⟨i, hi, rfl⟩ := List.getElem_of_mem hx
    have := hv.ok i hi
    rw [show vias.getD i 0 = vias[i] by simp [List.getD, hi]] at this
    simp [inB]; omega
  rw [hno]
  simp (disch := omega) only [go_sem, ↓if_pos, ne_eq, ↓reduceIte]
  exact W_retC c102_ok rfl (Conv.drop _ hσ) ⟨rfl, rfl⟩
theorem RoutesOf_ok {n : Net} {ex ex2 ex3 : Bool} {env : List Int} {down : List Bool} {vias : List Int} {rs : List Rt} (h : Fine n env down) (hv : ViasR n vias) (hr : routesO n env down vias = some rs) :
    Ret Try.prog Γ 41 [netV n, .isl ex 1 (ints env), .isl ex2 1 (bools down), .isl ex3 1 (ints vias)] σ (.tup [.isl false 4 (rtsV rs), .int .i64 0]) σ := by
  have a := h.around
  have r4 := a.net.r4
  have l6 := a.net.l6
  have x2 := a.net.x2
  have q1 := a.env1
  have q2 := a.down
  have hl := hv.len
  have hlen : (netC n).take 6 = netC n := rfl
  have hlen2 : (netC n).length = 6 := rfl
  have d1 : decide ((vias.length : Int) > 4096) = false := decide_eq_false (by omega)
  have hC := fun Γ σ => routesCode_ok (Γ := Γ) (σ := σ) (ex := ex) (ex2 := ex2) (env := env) (down := down) h.len (by omega) (by omega)
  rw [h.code] at hC
  have hV : routesV (some rs) = .tup [.isl false 4 (rtsV rs), .bool true] := rfl
  refine ret_of c41_ok rfl ?_
  simp (disch := omega) only [c41, netV, go_sem, ↓if_pos, ne_eq, ↓reduceIte]
  refine SRun.boxR (net_one n) ?_
  intro b3 hb3
  have g3 := upd_same σ b3 (netC n)
  have hσ : ∀ d x, σ d = some x → upd σ b3 (netC n) d = some x := le_upd hb3
  simp (disch := omega) only [go_sem, ↓if_pos, ne_eq, ↓reduceIte]
  generalize upd σ b3 (netC n) = s1 at *
  simp (disch := omega) only [g3, hlen, hlen2, d1, go_sem, ↓if_pos, ne_eq, ↓reduceIte]
  refine SRun.callR (hC _ _) ⟨[], rfl, rfl⟩ rfl ?_
  simp (disch := omega) only [g3, hlen, hlen2, go_sem, ↓if_pos, ne_eq, ↓reduceIte]
  refine SRun.callR (areVias_ok (ex := ex3) a.net hv) ⟨[], rfl, rfl⟩ rfl ?_
  simp (disch := omega) only [g3, hlen, hlen2, go_sem, ↓if_pos, ne_eq, ↓reduceIte]
  refine SRun.callR (routesOf_ok (ex := ex) (ex2 := ex2) (ex3 := ex3) a hv) ⟨[], rfl, rfl⟩ rfl ?_
  rw [hr, hV]
  simp (disch := omega) only [go_sem, ↓if_pos, ne_eq, ↓reduceIte]
  exact W_retC c41_ok rfl (Conv.drop _ hσ) ⟨rfl, rfl⟩
theorem has_ok {ex : Bool} {xs : List Int} {x : Int} (hl : xs.length ≤ 1000000000000) (hm : x ∈ xs) : Ret Try.prog Γ 40 [.isl ex 1 (ints xs), .int .i64 x] σ (.bool true) σ := by
  refine ret_of c40_ok rfl ?_
  simp (disch := omega) only [c40, go_sem, ↓if_pos, ne_eq, ↓reduceIte]
  refine W_loopC (α := Nat) (fun i => i ≤ xs.length ∧ ∀ j, j < i → xs.getD j 0 ≠ x) (fun i => [(0, .isl ex 1 (ints xs)), (1, .int .i64 x), (5, .int .i64 (i : Nat))]) (fun _ => σ) (fun i => xs.length - i) 0 ⟨by omega, fun j hj => by omega⟩ (by simp (disch := omega) only [subT, Int.natCast_add, Int.cast_ofNat_Int, go_sem, ↓if_pos, ne_eq, ↓reduceIte] <;> (repeat' apply And.intro) <;> first | rfl | (congr 1; omega) | assumption) rfl ?_
  rintro i ⟨hi, hno⟩ ih
  simp (disch := omega) only [go_sem, ↓if_pos, ne_eq, ↓reduceIte]
  first | refine iteW_dec (fun h1 => ?_) (fun h1 => ?_) | refine iteW_of (fun h1 => ?_) (fun h1 => ?_)
  · simp (disch := omega) only [go_sem, ↓if_pos, ne_eq, ↓reduceIte]
    first | refine iteW_dec (fun h2 => ?_) (fun h2 => ?_) | refine iteW_of (fun h2 => ?_) (fun h2 => ?_)
    · simp (disch := omega) only [go_sem, ↓if_pos, ne_eq, ↓reduceIte]
      exact W_retR c40_ok rfl ⟨rfl, rfl⟩
    · simp (disch := omega) only [go_sem, ↓if_pos, ne_eq, ↓reduceIte]
      refine ih (i + 1) _ _ ⟨by omega, fun j hj => ?_⟩ (by omega) (by simp (disch := omega) only [subT, Int.natCast_add, Int.cast_ofNat_Int, go_sem, ↓if_pos, ne_eq, ↓reduceIte] <;> (repeat' apply And.intro) <;> first | rfl | (congr 1; omega) | assumption) rfl
      by_cases e : j = i
      · subst e; exact h2
      · exact hno j (by omega)
  · obtain ⟨j, hj, hje⟩ := List.getElem_of_mem hm
    exact absurd (by rw [← hje]; simp [List.getD, hj]) (hno j (by omega))
end
section
variable {Γ : St} {σ σ0 : St}
def gad0 : Net := ⟨[[97], [98], [99]], [⟨0, 1, 1⟩, ⟨0, 2, 1⟩, ⟨1, 2, 1⟩], [0], [], [⟨1, 2, 0, 2, 150⟩, ⟨2, 1, 0, 2, 150⟩], []⟩
def gadI : Nat → List Imp
  | 0 => []
  | i + 1 => gadI i ++ [⟨(i : Int) + 1, ((i : Int) + 1) % 3 + 1, 1, 1, 0⟩, ⟨(i : Int) + 1, ((i : Int) + 1) % 3 + 1, 0, 2, 150⟩, ⟨(i : Int) + 1, ((i : Int) + 1) % 3 + 1, 0, 3, 0⟩]
theorem gadI_len : ∀ i : Nat, (gadI i).length = 3 * i := by
  intro i
  induction i with
  | zero => rfl
  | succ i ih => simp only [gadI, List.length_append, ih, List.length_cons, List.length_nil]; omega
def gad1 : Net := ⟨[[97], [98], [99], [100]], [⟨0, 1, 1⟩, ⟨0, 2, 1⟩, ⟨0, 3, 1⟩, ⟨1, 2, 1⟩, ⟨2, 3, 1⟩, ⟨1, 3, 1⟩], [0], [], gadI 3, []⟩
def gadC (q : V) : List V := [.isl true 1 [.str [97], .str [98], .str [99], .str [100]], .isl true 3 (linksV gad1.links), .isl true 1 [.int .i64 0], .isl true 0 [], q, .isl true 0 []]
theorem gad0_net : netB gad0 = true := by decide
theorem gad1_net : netB gad1 = true := by decide
theorem gad_len {n : Net} (h : netB n = true) (hs : ∀ s ∈ n.routers, s.length ≤ 1) (ho : n.origins.length ≤ 1) : NetLen n := by
  have hn := netR_of h
  have r4 := hn.r4
  have l6 := hn.l6
  have i12 := hn.i12
  have f6 := hn.f6
  have x2 := hn.x2
  exact ⟨by omega, fun s h => Nat.le_trans (hs s h) (by omega), by omega, by omega, by omega, by omega, by omega⟩
set_option maxHeartbeats 1000000 in
theorem l07Gadget_ok {k : Int} (hk : 0 ≤ k ∧ k < 2) : ACalls Try.prog Γ 97 [.int .i64 k] σ fun r σ' => ∃ n, netB n = true ∧ NetLen n ∧ r = netV n ∧ σ' = σ := by
  refine acalls_W c97_ok rfl ?_
  simp (disch := omega) only [c97, go_sem, ↓if_pos, ne_eq, ↓reduceIte]
  refine SRun.allocR ?_
  intro b2 hb2
  simp (disch := omega) only [go_sem, ↓if_pos, ne_eq, ↓reduceIte]
  have g2 := upd_same σ b2 [V.isl true 0 [], V.isl true 0 [], V.isl true 0 [], V.isl true 0 [], V.isl true 0 [], V.isl true 0 []]
  have hσ : ∀ d x, σ d = some x → upd σ b2 [V.isl true 0 [], V.isl true 0 [], V.isl true 0 [], V.isl true 0 [], V.isl true 0 [], V.isl true 0 []] d = some x := le_upd hb2
  generalize upd σ b2 [V.isl true 0 [], V.isl true 0 [], V.isl true 0 [], V.isl true 0 [], V.isl true 0 [], V.isl true 0 []] = s1 at *
  refine SRun.allocR ?_
  intro b3 hb3
  have g3 := fun z => upd_same s1 b3 z
  have e23 : b2 ≠ b3 := fun e => by subst e; rw [g2] at hb3; cases hb3
  have g23 : ∀ z, upd s1 b3 z b2 = some [V.isl true 0 [], V.isl true 0 [], V.isl true 0 [], V.isl true 0 [], V.isl true 0 [], V.isl true 0 []] := fun z => by rw [upd_ne _ _ e23, g2]
  simp (disch := omega) only [g3, go_sem, ↓if_pos, ne_eq, ↓reduceIte]
  by_cases c1 : k = 1
  · have d1 : decide (k = 1) = true := decide_eq_true c1
    simp (disch := omega) only [g3, d1, go_sem, ↓if_pos, ne_eq, ↓reduceIte]
    refine W_loopC (α := Nat × V × St) (fun p => p.1 ≤ 3 ∧ p.2.1.one = true ∧ OwnL (upd s1 b3 (gadC p.2.1)) 5 (impsV (gadI p.1)) p.2.1 p.2.2) (fun p => [(2, .ptr b2 0), (3, .ptr b3 0), (4, .int .i64 ((p.1 : Nat) + 1))]) (fun p => p.2.2) (fun p => 3 - p.1) (0, .isl true 0 [], upd s1 b3 (gadC (.isl true 0 []))) ⟨by simp, rfl, OwnL.nil _ 0⟩ (by simp (disch := omega) only [subT, Int.natCast_add, Int.cast_ofNat_Int, go_sem, ↓if_pos, ne_eq, ↓reduceIte] <;> (repeat' apply And.intro) <;> first | rfl | (congr 1; omega) | assumption) rfl ?_
    rintro ⟨i, q, s⟩ ⟨hi, hq1, ho1⟩ ih
    dsimp only at hi hq1 ho1
    have g3' := ho1.get (upd_same s1 b3 (gadC q))
    have g2' := ho1.get (g23 (gadC q))
    have hgc4 : (gadC q)[4]? = some q := rfl
    simp (disch := omega) only [go_sem, ↓if_pos, ne_eq, ↓reduceIte]
    first | refine iteW_dec (fun h1 => ?_) (fun h1 => ?_) | refine iteW_of (fun h1 => ?_) (fun h1 => ?_)
    · have hrm : ((i : Int) + 1).tmod 3 = ((i : Int) + 1) % 3 := Int.tmod_eq_emod_of_nonneg (by omega)
      simp (disch := omega) only [g3', hgc4, hrm, go_sem, ↓if_pos, ne_eq, ↓reduceIte]
      have hgl := gadI_len i
      refine SRun.appL ho1 rfl (by
        intro y hy
        simp only [List.mem_cons, List.not_mem_nil, or_false] at hy
        rcases hy with rfl | rfl | rfl <;> simp [V.cells, V.one]) (by rw [impsV_len, hgl]; simp only [List.length_cons, List.length_nil]; omega) ?_
      intro q2 s2 ho2
      have hap : impsV (gadI i) ++ [V.agg [.int .i64 ((i : Int) + 1), .int .i64 (((i : Int) + 1) % 3 + 1), .int .i64 1, .int .i64 1, .int .i64 0], V.agg [.int .i64 ((i : Int) + 1), .int .i64 (((i : Int) + 1) % 3 + 1), .int .i64 0, .int .i64 2, .int .i64 150], V.agg [.int .i64 ((i : Int) + 1), .int .i64 (((i : Int) + 1) % 3 + 1), .int .i64 0, .int .i64 3, .int .i64 0]] = impsV (gadI (i + 1)) := by simp [impsV, gadI, impC]
      rw [hap] at ho2
      have g32 := ho2.get (upd_same s1 b3 (gadC q))
      have hcl : (gadC q).length = 6 := rfl
      have hq2 := ho2.one
      have hst : (gadC q).set 4 q2 = gadC q2 := rfl
      have hs2 : sets (gadC q) 4 [q2] = gadC q2 := rfl
      have hqc := ho2.cells
      have hoU := ho2.upd (c' := gadC q2) (upd_same s1 b3 (gadC q))
      rw [upd_upd] at hoU
      simp (disch := omega) only [g32, hcl, hqc, hst, hs2, hq2, go_sem, ↓if_pos, ne_eq, ↓reduceIte]
      refine ih (i + 1, q2, upd s2 b3 (gadC q2)) _ _ ⟨by simp only; omega, hq2, hoU⟩ (by simp only; omega) (by simp (disch := omega) only [subT, Int.natCast_add, Int.cast_ofNat_Int, go_sem, ↓if_pos, ne_eq, ↓reduceIte] <;> (repeat' apply And.intro) <;> first | rfl | (congr 1; omega) | assumption) rfl
    · have hi3 : i = 3 := by omega
      subst hi3
      have hcl : (gadC q).length = 6 := rfl
      have htk : (gadC q).take 6 = gadC q := rfl
      have hqc := ho1.cells
      have hon : (∀ c, c ∈ gadC q → c.one = true) = True := eq_true (by
        intro c hc
        simp only [gadC, List.mem_cons, List.not_mem_nil, or_false] at hc
        rcases hc with rfl | rfl | rfl | rfl | rfl | rfl <;> first | rfl | exact hq1)
      have hsets : sets [V.isl true 0 [], V.isl true 0 [], V.isl true 0 [], V.isl true 0 [], V.isl true 0 [], V.isl true 0 []] 0 (gadC q) = gadC q := rfl
      simp (disch := omega) only [g3', g2', hcl, htk, hon, hsets, go_sem, ↓if_pos, ne_eq, ↓reduceIte]
      have hFq : Frz (upd s b2 (gadC q)) σ q (.isl false 5 (impsV gad1.imports)) := ho1.frz (fun d hd => by
          have e2 : d ≠ b2 := fun e => by subst e; rw [g23] at hd; cases hd
          rw [upd_ne _ _ e2]) (fun d hd => by
          have h1 := upd_none.1 hd
          cases e : σ d with
          | none => rfl
          | some c => rw [hσ _ _ e] at h1; cases h1.2)
      refine W_retC c97_ok (r' := netV gad1) (σ' := σ) (resV_cellA rfl (upd_same _ _ _) rfl) ⟨fun d x h => ?_, frz_agg (by exact ⟨.isl _ _ _, .isl _ _ _, .isl _ _ _, .isl0 _ _ _ _ (fun h => by cases h), hFq, .isl0 _ _ _ _ (fun h => by cases h), trivial⟩) (net_one _)⟩ ⟨gad1, gad1_net, gad_len gad1_net (by decide) (by decide), rfl, rfl⟩
      have e2 : d ≠ b2 := fun e => by subst e; rw [hb2] at h; cases h
      have e3 : d ≠ b3 := fun e => by subst e; have := hσ _ _ h; rw [hb3] at this; cases this
      rw [upd_ne _ _ e2]
      exact ho1.get (by rw [upd_ne _ _ e3]; exact hσ _ _ h)
  · have d1 : decide (k = 1) = false := decide_eq_false c1
    simp (disch := omega) only [g3, d1, g23, go_sem, ↓if_pos, ne_eq, ↓reduceIte]
    exact W_retC c97_ok (r' := netV gad0) (σ' := σ) (resV_cellA rfl (upd_same _ _ _) rfl) ⟨fun d x h => by
      have e2 : d ≠ b2 := fun e => by subst e; rw [hb2] at h; cases h
      have e3 : d ≠ b3 := fun e => by subst e; have := hσ _ _ h; rw [hb3] at this; cases this
      rw [upd_ne _ _ e2, upd_ne _ _ e3]; exact hσ _ _ h, frz_agg (by exact ⟨.isl _ _ _, .isl _ _ _, .isl _ _ _, .isl0 _ _ _ _ (fun h => by cases h), .isl _ _ _, .isl0 _ _ _ _ (fun h => by cases h), trivial⟩) (net_one _)⟩ ⟨gad0, gad0_net, gad_len gad0_net (by decide) (by decide), rfl, rfl⟩
theorem Gadget_ok {k : Int} (hk : 0 ≤ k ∧ k < 2) : ACalls Try.prog Γ 34 [.int .i64 k] σ fun r σ' => ∃ n, netB n = true ∧ NetLen n ∧ r = netV n ∧ σ' = σ := by
  refine acalls_W c34_ok rfl ?_
  simp (disch := omega) only [c34, go_sem, ↓if_pos, ne_eq, ↓reduceIte]
  refine SRun.allocR ?_
  intro b2 hb2
  simp (disch := omega) only [go_sem, ↓if_pos, ne_eq, ↓reduceIte]
  refine SRun.callQ (l07Gadget_ok hk) ⟨[], rfl, rfl⟩ rfl ?_
  rintro r s ⟨n, hB, hN, rfl, hs⟩
  obtain rfl := hs.symm
  have hlen2 : (netC n).length = 6 := rfl
  have hone : (∀ c, c ∈ netC n → c.one = true) = True := eq_true (net_one n)
  have hsets : sets [V.isl true 0 [], V.isl true 0 [], V.isl true 0 [], V.isl true 0 [], V.isl true 0 [], V.isl true 0 []] 0 (netC n) = netC n := rfl
  have hnc : netV n = .agg (netC n) := rfl
  have g2 := fun z => upd_same σ b2 z
  rw [hnc]
  simp (disch := omega) only [g2, hlen2, hone, hsets, go_sem, ↓if_pos, ne_eq, ↓reduceIte]
  exact W_retC c34_ok (r' := netV n) (σ' := σ) (resV_cellA rfl (upd_same _ _ _) rfl) (Conv.drop _ (le_upd hb2)) ⟨n, hB, hN, rfl, rfl⟩
end
section
variable {Γ : St} {σ σ0 : St}
theorem StateR.w {n : Net} {down : List Bool} {rs : List Rt} (hn : NetR n) (h : StateR n down rs) : RtsW rs := by
  have r1 := hn.r1
  have hl := h.len
  have hdf : ∀ v : Int, ¬ v.toNat < rs.length → rtAt rs v = default := fun v hv => by simp [rtAt, List.getD, List.getElem?_eq_none (by omega : rs.length ≤ v.toNat)]
  constructor
  · intro v
    by_cases hv : v.toNat < rs.length
    · have := (h.ok _ hv).via.2
      unfold rtAt; omega
    · rw [hdf v hv]; show (0 : Int) < _; omega
  · intro v
    by_cases hv : v.toNat < rs.length
    · have := (h.ok _ hv).len
      unfold rtAt; omega
    · rw [hdf v hv]; show (0 : Int) ≤ 0 ∧ (0 : Int) ≤ _; omega
theorem states_still {n : Net} {env : List Int} {down : List Bool} {rs : List Rt} (h : rs ∈ statesP n env down) : Still n env down rs ∧ stableB n env down rs = true ∧ routesO n env down (rs.map (·.via)) = some rs := by
  simp only [statesP, List.mem_filterMap] at h
  obtain ⟨vs, h1, h2⟩ := h
  obtain ⟨h3, h4, h5⟩ := stateO_some (choice_len h1) h2
  refine ⟨h3, h4, ?_⟩
  have h6 := stateQ_still h3 h4
  unfold stateQ at h6
  rw [Option.bind_eq_some_iff] at h6
  obtain ⟨r, h7, h8⟩ := h6
  split at h8
  · cases h8; exact h7
  · cases h8
theorem dig_inj {B : Nat} (hB : 0 < B) : ∀ {m t u : Nat}, t < B ^ m → u < B ^ m → dig B m t = dig B m u → t = u := by
  intro m
  induction m with
  | zero => intro t u h1 h2 _; simp at h1 h2; omega
  | succ m ih =>
    intro t u h1 h2 h
    rw [Nat.pow_succ] at h1 h2
    rw [dig, dig] at h
    obtain ⟨e1, e2⟩ := List.append_inj h (by rw [dig_len, dig_len])
    have e3 := ih (Nat.div_lt_of_lt_mul (by rw [Nat.mul_comm]; exact h1)) (Nat.div_lt_of_lt_mul (by rw [Nat.mul_comm]; exact h2)) e1
    have e4 : t % B = u % B := by
      simp only [List.cons.injEq, and_true] at e2; omega
    have d1 := Nat.div_add_mod t B
    have d2 := Nat.div_add_mod u B
    rw [e3, e4] at d1
    omega
theorem states_pw {n : Net} {env : List Int} {down : List Bool} : (statesP n env down).Pairwise (· ≠ ·) := by
  rw [← states_all, List.pairwise_filterMap]
  refine (List.pairwise_iff_getElem.2 fun i j hi hj hij => ?_)
  simp only [List.getElem_range]
  rw [List.length_range] at hi hj
  intro rs h1 rs' h2 e
  subst e
  have e1 := (stateQ_some (dig_len _ _ _) h1).2.2
  have e2 := (stateQ_some (dig_len _ _ _) h2).2.2
  have := dig_inj (B := n.routers.length + 3) (by omega) hi hj (by rw [← e1, ← e2])
  omega
theorem states_ne {n : Net} {env : List Int} {down : List Bool} {i : Nat} (hi : i < (statesP n env down).length) (h0 : 0 < i) : (statesP n env down).getD i [] ≠ (statesP n env down).getD (i - 1) [] := by
  have h := List.pairwise_iff_getElem.1 (states_pw (n := n) (env := env) (down := down)) (i - 1) i (by omega) hi (by omega)
  simp only [List.getD, List.getElem?_eq_getElem hi, List.getElem?_eq_getElem (by omega : i - 1 < (statesP n env down).length), Option.getD_some]
  exact fun e => h e.symm
theorem still_vias {n : Net} {env : List Int} {down : List Bool} {rs : List Rt} (h : Still n env down rs) : ViasR n (rs.map (·.via)) := by
  have hl := h.len
  refine ⟨by rw [List.length_map, hl], fun i hi => ?_⟩
  rw [List.length_map] at hi
  have := h.lt hi
  have e : (rs.map (·.via)).getD i 0 = (rs.getD i default).via := by simp [List.getD, hi]
  rw [e]; omega
set_option maxHeartbeats 4000000 in
set_option maxRecDepth 8000 in
theorem fnStable_ok {ex ex2 : Bool} {code more : List UInt8} (hl1 : code.length ≤ 140737488355328) (hl2 : more.length ≤ 140737488355328) : Ret Try.prog Γ 6 [codeV ex code, codeV ex2 more] σ (.bool true) σ := by
  refine ret_of c6_ok rfl ?_
  simp (disch := omega) only [c6, codeV, go_sem, ↓if_pos, ne_eq, ↓reduceIte]
  first | refine guardW_dec (fun h => ?_) (fun h => ?_) | refine guardW_by (fun h => ?_) (fun h => ?_)
  · simp (disch := omega) only [go_sem, ↓if_pos, ne_eq, ↓reduceIte]
    refine W_retR c6_ok rfl ⟨?_, rfl⟩
    simp only [look, ev, V.bool.injEq, V.int.injEq, V.str.injEq, V.tup.injEq, V.agg.injEq, V.isl.injEq, List.cons.injEq, true_and, and_true, Nat.reduceEqDiff, Nat.reduceAdd, Nat.reduceSub, Nat.reduceMul, Nat.reducePow, Nat.reduceDiv, Nat.reduceMod, Int.reduceToNat, Nat.reduceLeDiff, Nat.reduceLT, Int.reduceEq, Int.reduceLT, Int.reduceLE, Int.reduceGT, Int.reduceGE, Int.reduceNeg, Int.reduceSub, Int.reduceAdd, Int.reduceMul, Int.reducePow, ne_eq, reduceCtorEq, ↓reduceIte]
  simp (disch := omega) only [go_sem, ↓if_pos, ne_eq, ↓reduceIte]
  first | refine iteW_dec (fun h2 => ?_) (fun h2 => ?_) | refine iteW_of (fun h2 => ?_) (fun h2 => ?_)
  · simp (disch := omega) only [go_sem, ↓if_pos, ne_eq, ↓reduceIte]
    refine W_retR c6_ok rfl ⟨?_, rfl⟩
    simp only [look, ev, V.bool.injEq, V.int.injEq, V.str.injEq, V.tup.injEq, V.agg.injEq, V.isl.injEq, List.cons.injEq, true_and, and_true, Nat.reduceEqDiff, Nat.reduceAdd, Nat.reduceSub, Nat.reduceMul, Nat.reducePow, Nat.reduceDiv, Nat.reduceMod, Int.reduceToNat, Nat.reduceLeDiff, Nat.reduceLT, Int.reduceEq, Int.reduceLT, Int.reduceLE, Int.reduceGT, Int.reduceGE, Int.reduceNeg, Int.reduceSub, Int.reduceAdd, Int.reduceMul, Int.reducePow, ne_eq, reduceCtorEq, ↓reduceIte]
  simp (disch := omega) only [go_sem, ↓if_pos, ne_eq, ↓reduceIte]
  refine SRun.callQ (NetOf_ok (ex := ex) (code := code) hl1) ⟨[], rfl, rfl⟩ rfl ?_
  rintro r s ⟨n, hB, hN, hos, rfl, hs⟩
  obtain rfl := hs.symm
  have hlen : ∀ n : Net, (netC n).take 6 = netC n := fun _ => rfl
  have hlen2 : ∀ n : Net, (netC n).length = 6 := fun _ => rfl
  have hone : ∀ n : Net, (∀ c, c ∈ netC n → c.one = true) = True := fun n => eq_true (net_one n)
  have hsets : ∀ n : Net, sets [V.isl true 0 [], V.isl true 0 [], V.isl true 0 [], V.isl true 0 [], V.isl true 0 [], V.isl true 0 []] 0 (netC n) = netC n := fun _ => rfl
  have hsets2 : ∀ m n : Net, sets (netC m) 0 (netC n) = netC n := fun _ _ => rfl
  have hnc : ∀ n, netV n = .agg (netC n) := fun _ => rfl
  rw [hnc]
  simp (disch := omega) only [go_sem, ↓if_pos, ne_eq, ↓reduceIte]
  refine SRun.allocR ?_
  intro b5 hb5
  simp (disch := omega) only [hlen2, hone, hsets, go_sem, ↓if_pos, ne_eq, ↓reduceIte]
  have g5 := fun z => upd_same σ b5 z
  have hσ : ∀ z d x, σ d = some x → upd σ b5 z d = some x := fun z => le_upd hb5
  refine SRun.callQ (at_ok (ex := ex2) (code := more) (i := 0) (n := 6) hl2 (by omega) (by omega)) ⟨[], rfl, rfl⟩ rfl ?_
  rintro r s ⟨k, k0, k1, rfl, hs⟩
  obtain rfl := hs.symm
  simp (disch := omega) only [go_sem, ↓if_pos, ne_eq, ↓reduceIte]
  refine iteW_join (fun T s => ∃ n, netB n = true ∧ NetLen n ∧ s = upd σ b5 (netC n) ∧ look T 1 = codeV ex2 more ∧ look T 5 = .ptr b5 0) (fun k' key => ?_) ?_
  · by_cases c1 : k = 0
    · have d1 : decide (k = 0) = true := decide_eq_true c1
      simp (disch := omega) only [d1, go_sem, ↓if_pos, ne_eq, ↓reduceIte]
      refine SRun.callQ (at_ok (ex := ex2) (code := more) (i := 1) (n := 2) hl2 (by omega) (by omega)) ⟨[], rfl, rfl⟩ rfl ?_
      rintro r s ⟨w, w0, w1, rfl, hs⟩
      obtain rfl := hs.symm
      simp (disch := omega) only [go_sem, ↓if_pos, ne_eq, ↓reduceIte]
      refine SRun.callQ (Gadget_ok (k := w) ⟨w0, w1⟩) ⟨[], rfl, rfl⟩ rfl ?_
      rintro r s ⟨n2, hB2, hN2, rfl, hs⟩
      obtain rfl := hs.symm
      rw [hnc]
      simp (disch := omega) only [g5, hlen2, hone, hsets2, go_sem, ↓if_pos, ne_eq, ↓reduceIte]
      exact key _ _ ⟨n2, hB2, hN2, rfl, rfl, rfl⟩
    · have d1 : decide (k = 0) = false := decide_eq_false c1
      simp (disch := omega) only [d1, go_sem, ↓if_pos, ne_eq, ↓reduceIte]
      exact key _ _ ⟨n, hB, hN, rfl, rfl, rfl⟩
  clear hos hB hN hs k0 k1 n
  rintro T s ⟨n, hB, hN, rfl, k1, k5⟩
  have hR := netR_of hB
  have r1 := hR.r1
  have r4 := hR.r4
  have l6 := hR.l6
  have g5 := g5 (netC n)
  have hσ := hσ (netC n)
  generalize upd σ b5 (netC n) = s1 at *
  simp (disch := omega) only [k1, k5, g5, hlen, hlen2, go_sem, ↓if_pos, ne_eq, ↓reduceIte]
  refine SRun.callQ (EnvOf_ok (ex := ex2) (code := more) hl2 hR) ⟨[], rfl, rfl⟩ rfl ?_
  rintro r s ⟨env, he1, he2, rfl, hs⟩
  obtain rfl := hs.symm
  simp (disch := omega) only [k1, k5, g5, hlen, hlen2, go_sem, ↓if_pos, ne_eq, ↓reduceIte]
  refine SRun.callQ (DownOf_ok (ex := ex2) (code := more) hl2 hR) ⟨[], rfl, rfl⟩ rfl ?_
  rintro r s ⟨down, hd1, rfl, hs⟩
  obtain rfl := hs.symm
  have hE : envB n env down = true := by unfold envB; rw [decide_eq_true he1, decide_eq_true hd1, he2]; rfl
  have hF : Fine n env down := ⟨hN, hB, hE⟩
  have hA := hF.around
  simp (disch := omega) only [k5, g5, hlen, hlen2, go_sem, ↓if_pos, ne_eq, ↓reduceIte]
  refine SRun.callR (StableStates_ok (ex := false) (ex2 := false) hF) ⟨[], rfl, rfl⟩ rfl ?_
  simp (disch := omega) only [k5, g5, hlen, hlen2, go_sem, ↓if_pos, ne_eq, ↓reduceIte]
  refine SRun.callR (StableStatess_ok (ex := false) (ex2 := false) hN hB hE) ⟨[], rfl, rfl⟩ rfl ?_
  have hsl := statesP_len (env := env) (down := down) hR
  have hsf := fun rs (h : rs ∈ statesP n env down) => statesP_fine hR h
  have hss := fun rs (h : rs ∈ statesP n env down) => states_still h
  have hsn := fun i => states_ne (n := n) (env := env) (down := down) (i := i)
  generalize statesP n env down = ss at *
  have hne : ∀ k : Int, (decide ¬ k = k) = false := fun k => by simp
  simp (disch := omega) only [hne, go_sem, ↓if_pos, ne_eq, ↓reduceIte]
  refine W_loopC (α := Nat × St) (fun p => p.1 ≤ ss.length ∧ ∀ d x, s1 d = some x → p.2 d = some x) (fun p => [(5, .ptr b5 0), (6, .isl false 1 (ints env)), (7, .isl false 1 (bools down)), (8, .isl false 1 (staV ss)), (10, .isl false 1 (staV ss)), (12, .int .i64 (p.1 : Nat))]) (fun p => p.2) (fun p => ss.length - p.1) (0, s1) ⟨by simp, fun _ _ h => h⟩ (by simp (disch := omega) only [subT, Int.natCast_add, Int.cast_ofNat_Int, k5, go_sem, ↓if_pos, ne_eq, ↓reduceIte] <;> (repeat' apply And.intro) <;> first | rfl | (congr 1; omega) | assumption) rfl ?_
  clear k1 k5 T
  rintro ⟨i, s⟩ ⟨hi, hle⟩ ih
  dsimp only at hi hle
  have g5' := hle _ _ g5
  simp (disch := omega) only [go_sem, ↓if_pos, ne_eq, ↓reduceIte]
  first | refine iteW_dec (fun h3 => ?_) (fun h3 => ?_) | refine iteW_of (fun h3 => ?_) (fun h3 => ?_)
  · have hi' : i < ss.length := by omega
    have hm := getD_mem [] hi'
    have hst := hsf _ hm
    obtain ⟨hS, hb, hro⟩ := hss _ hm
    have hsn := hsn i hi'
    have hrw := hst.w hR
    have hrl := hst.len
    have hrt := hst.rts
    have hvr := still_vias hS
    simp (disch := omega) only [go_sem, ↓if_pos, ne_eq, ↓reduceIte]
    refine W_drawW ?_
    simp (disch := omega) only [go_sem, ↓if_pos, ne_eq, ↓reduceIte]
    generalize hgr : ss.getD i [] = rs at *
    refine DRun.callQ (sameRoutes_ok (ex := false) (ex2 := false) (xs := rs) (ys := rs) (by omega)) ⟨[], rfl, rfl⟩ ?_
    rintro _ _ ⟨rfl, hs⟩
    obtain rfl := hs.symm
    rw [decide_eq_true (rfl : rs = rs)]
    rcases Nat.eq_zero_or_pos i with c0 | c0
    case' inl =>
      have d0 : decide ((i : Int) > 0) = false := decide_eq_false (by omega)
      simp (disch := omega) only [d0, go_sem, ↓if_pos, ne_eq, ↓reduceIte]
      refine DRun.skipG rfl ?_
      simp (disch := omega) only [go_sem, ↓if_pos, ne_eq, ↓reduceIte]
    case' inr =>
      have d0 : decide ((i : Int) > 0) = true := decide_eq_true (by omega)
      have hti : ((i : Int) - 1).toNat = i - 1 := by omega
      have hn2 := hsn c0
      simp (disch := omega) only [d0, hgr, hti, go_sem, ↓if_pos, ne_eq, ↓reduceIte]
      refine DRun.callG (sameRoutes_ok (ex := false) (ex2 := false) (xs := rs) (ys := ss.getD (i - 1) []) (by omega)) ⟨[], rfl, rfl⟩ rfl ?_
      rintro _ _ ⟨rfl, hs⟩
      obtain rfl := hs.symm
      rw [decide_eq_false hn2]
      simp (disch := omega) only [go_sem, ↓if_pos, ne_eq, ↓reduceIte]
      clear hn2 hti
    all_goals
      clear d0 c0
      refine W_drawW ?_
      simp (disch := omega) only [hgr, g5', hlen, hlen2, go_sem, ↓if_pos, ne_eq, ↓reduceIte]
      refine DRun.callQ (IsStable_ok (ex := false) (ex2 := false) (ex3 := false) (rs := rs) hF hrt hrw) ⟨[], rfl, rfl⟩ ?_
      rintro _ _ ⟨rfl, hs⟩
      obtain rfl := hs.symm
      rw [hb]
      simp (disch := omega) only [go_sem, ↓if_pos, ne_eq, ↓reduceIte]
      refine W_loopC (α := Nat × V × St × St) (fun p => p.1 ≤ rs.length ∧ (∀ d x, s d = some x → p.2.2.1 d = some x) ∧ OwnL p.2.2.1 1 (ints ((rs.take p.1).map (·.via))) p.2.1 p.2.2.2) (fun p => [(5, .ptr b5 0), (6, .isl false 1 (ints env)), (7, .isl false 1 (bools down)), (8, .isl false 1 (staV ss)), (10, .isl false 1 (staV ss)), (12, .int .i64 (i : Nat)), (13, .bool true), (14, .int .i64 0), (15, p.2.1), (16, .int .i64 (p.1 : Nat))]) (fun p => p.2.2.2) (fun p => rs.length - p.1) (0, _, s, s) ⟨by simp, fun _ _ h => h, OwnL.nil _ 1⟩ (by simp (disch := omega) only [subT, Int.natCast_add, Int.cast_ofNat_Int, go_sem, ↓if_pos, ne_eq, ↓reduceIte] <;> (repeat' apply And.intro) <;> first | rfl | (congr 1; omega) | assumption) rfl ?_
      rintro ⟨j, q, sb, s2⟩ ⟨hj, hle2, ho1⟩ ih2
      dsimp only at hj hle2 ho1
      have hrt0 : ∀ r : Rt, (rtC r)[0]? = some (.int .i64 r.via) := fun _ => rfl
      simp (disch := omega) only [hgr, go_sem, ↓if_pos, ne_eq, ↓reduceIte]
      first | refine iteW_dec (fun h4 => ?_) (fun h4 => ?_) | refine iteW_of (fun h4 => ?_) (fun h4 => ?_)
      · have hj' : j < rs.length := by omega
        simp (disch := omega) only [hgr, hrt0, go_sem, ↓if_pos, ne_eq, ↓reduceIte]
        have htk := take_succ (xs := rs) (i := j) default hj'
        have htl : (rs.take j).length = j := by rw [List.length_take]; omega
        have hap : ints ((rs.take j).map (·.via)) ++ [.int .i64 (rs.getD j default).via] = ints ((rs.take (j + 1)).map (·.via)) := by rw [htk, List.map_append, ints_app]; rfl
        refine SRun.appL ho1 rfl (ints_ok [(rs.getD j default).via]) (by rw [ints_len, List.length_map, htl, List.length_singleton]; omega) ?_
        clear ho1
        intro q s2 ho1
        rw [hap] at ho1
        have htl2 : ((rs.take (j + 1)).map (·.via)).length = j + 1 := by rw [List.length_map, List.length_take]; omega
        have hget : (ints ((rs.take (j + 1)).map (·.via)))[j]? = some (.int .i64 (rs.getD j default).via) := ints_get (by simp [List.getD, List.getElem?_take, hj'])
        obtain ⟨bq, cq, hq, gq, _, _, _⟩ := ho1.at (by rw [ne_eq, List.eq_nil_iff_length_eq_zero, ints_len, htl2]; omega)
        rw [ints_len, htl2] at hq
        rw [flat_ints] at gq
        subst hq
        have g52 := ho1.get (hle2 _ _ g5')
        have hcl := cand_len r4 j env down rs
        have hbest := hS.best j hj'
        have hrt4 : ∀ r : Rt, (rtC r).take 4 = rtC r := fun _ => rfl
        have hrt5 : ∀ r : Rt, (rtC r).length = 4 := fun _ => rfl
        have hone2 : ∀ r : Rt, (∀ c, c ∈ rtC r → c.one = true) = True := fun r => eq_true (rt_one r)
        have hsets3 : ∀ r : Rt, sets [V.int .i64 0, .int .i64 0, .int .i64 0, .bool false] 0 (rtC r) = rtC r := fun _ => rfl
        simp (disch := omega) only [go_sem, ↓if_pos, ne_eq, ↓reduceIte]
        refine W_drawW ?_
        simp (disch := omega) only [hgr, g52, hlen, hlen2, go_sem, ↓if_pos, ne_eq, ↓reduceIte]
        refine DRun.callQ (Candidates_ok (ex := false) (ex2 := false) (ex3 := false) (rs := rs) (i := j) hF hrt hrw (by omega)) ⟨[], rfl, rfl⟩ ?_
        rintro _ _ ⟨rfl, hs⟩
        obtain rfl := hs.symm
        simp (disch := omega) only [go_sem, ↓if_pos, ne_eq, ↓reduceIte]
        refine SRun.callR (BestRoute_ok (ex := false) (l := candP n j env down rs) (by omega)) ⟨[], rfl, rfl⟩ rfl ?_
        by_cases hc : candP n j env down rs = []
        case' pos =>
          rw [if_pos hc]
          rw [hc] at hbest
          have hbest : noRt = rs.getD j default := hbest
          have hv3 : (rs.getD j default).via = -3 := by rw [← hbest]; rfl
          simp (disch := omega) only [hrt5, hone2, go_sem, ↓if_pos, ne_eq, ↓reduceIte]
          refine SRun.allocR ?_
          intro b19 hb19
          have g19 := fun z => upd_same s2 b19 z
          simp (disch := omega) only [g19, hrt5, hone2, hsets3, go_sem, ↓if_pos, ne_eq, ↓reduceIte]
          refine W_drawW ?_
          simp (disch := omega) only [g19, hgr, hrt0, hv3, go_sem, ↓if_pos, ne_eq, ↓reduceIte]
        case' neg =>
          rw [if_neg hc, first_best fun r hr => cand_via r hr, hbest]
          simp (disch := omega) only [hrt5, hone2, go_sem, ↓if_pos, ne_eq, ↓reduceIte]
          refine SRun.allocR ?_
          intro b19 hb19
          have g19 := fun z => upd_same s2 b19 z
          simp (disch := omega) only [g19, hrt5, hone2, hsets3, go_sem, ↓if_pos, ne_eq, ↓reduceIte]
          refine W_drawW ?_
          simp (disch := omega) only [g19, hgr, hrt0, hrt4, hrt5, stepK_eqaR, bne_t, go_sem, ↓if_pos, ne_eq, ↓reduceIte]
        all_goals
          have g5n : ∀ z, upd s2 b19 z b5 = some (netC n) := fun z => le_upd hb19 _ _ g52
          have gqn : ∀ z, upd s2 b19 z bq = some (ints ((rs.take (j + 1)).map (·.via))) := fun z => le_upd hb19 _ _ gq
          have hsb19 : sb b19 = none := by
            cases e : sb b19 with
            | none => rfl
            | some c => rw [ho1.get e] at hb19; cases hb19
          have hoE := fun z => ho1.ext (z := z) hb19
          simp (disch := omega) only [g5n, hlen, hlen2, go_sem, ↓if_pos, ne_eq, ↓reduceIte]
          refine SRun.callR (Neighbours_ok (ex := false) (down := down) (i := j) hN hB hA.down (by omega)) ⟨[], rfl, rfl⟩ rfl ?_
          have hnl : (nearP n j down).length ≤ 1000000000000 := by
            unfold nearP
            have := List.length_filter_le (nearB n j down) (List.range n.routers.length)
            rw [List.length_range] at this
            rw [List.length_map]; omega
          by_cases hv0 : 0 ≤ (rs.getD j default).via
          case' pos =>
            have dv : decide ((rs.getD j default).via ≥ 0) = true := decide_eq_true hv0
            simp (disch := omega) only [gqn, hget, dv, go_sem, ↓if_pos, ne_eq, ↓reduceIte]
            refine SRun.callR (has_ok (ex := false) (xs := nearP n j down) (x := (rs.getD j default).via) hnl (hS.via hj' hv0).1) ⟨[], rfl, rfl⟩ rfl ?_
            simp (disch := omega) only [go_sem, ↓if_pos, ne_eq, ↓reduceIte]
          case' neg =>
            have dv : decide ((rs.getD j default).via ≥ 0) = false := decide_eq_false hv0
            simp (disch := omega) only [gqn, hget, dv, go_sem, ↓if_pos, ne_eq, ↓reduceIte]
          all_goals
            exact ih2 (j + 1, _, upd sb b19 _, _) _ _ ⟨by simp only; omega, fun d x h => le_upd hsb19 _ _ (hle2 _ _ h), hoE _⟩ (by simp only; omega) (by simp (disch := omega) only [subT, Int.natCast_add, Int.cast_ofNat_Int, go_sem, ↓if_pos, ne_eq, ↓reduceIte] <;> (repeat' apply And.intro) <;> first | rfl | (congr 1; omega) | assumption) rfl
      · have hjl : j = rs.length := by omega
        subst hjl
        rw [List.take_length] at ho1
        have g52 := ho1.get (hle2 _ _ g5')
        have hFq : Frz s2 s q (.isl false 1 (ints (rs.map (·.via)))) := ho1.frz (fun _ _ => rfl) (fun d hd => by
          cases e : s d with
          | none => rfl
          | some c => rw [hle2 _ _ e] at hd; cases hd)
        simp (disch := omega) only [g52, hlen, hlen2, go_sem, ↓if_pos, ne_eq, ↓reduceIte]
        refine SRun.freeze (σ' := s) (T' := [(5, .ptr b5 0), (6, .isl false 1 (ints env)), (7, .isl false 1 (bools down)), (8, .isl false 1 (staV ss)), (10, .isl false 1 (staV ss)), (12, .int .i64 (i : Nat)), (13, .bool true), (14, .int .i64 0), (15, .isl false 1 (ints (rs.map (·.via)))), (209, .agg (netC n)), (210, .isl false 1 (ints env)), (211, .isl false 1 (bools down)), (212, .isl false 1 (ints (rs.map (·.via))))]) (fun d x h => ho1.le _ _ (hle2 _ _ h)) (by exact ⟨.refl _, .refl _, .refl _, .refl _, .refl _, .refl _, .refl _, .refl _, hFq, .refl _, .refl _, .refl _, hFq, trivial⟩) ?_
        refine SRun.callR (RoutesOf_ok (ex := false) (ex2 := false) (ex3 := false) hF hvr hro) ⟨[], rfl, rfl⟩ rfl ?_
        simp (disch := omega) only [hgr, go_sem, ↓if_pos, ne_eq, ↓reduceIte]
        refine SRun.callR (sameRoutes_ok (ex := false) (ex2 := false) (xs := rs) (ys := rs) (by omega)) ⟨[], rfl, rfl⟩ rfl ?_
        rw [decide_eq_true (rfl : rs = rs)]
        simp (disch := omega) only [go_sem, ↓if_pos, ne_eq, ↓reduceIte]
        exact ih (i + 1, s) _ _ ⟨by simp only; omega, hle⟩ (by simp only; omega) (by simp (disch := omega) only [subT, Int.natCast_add, Int.cast_ofNat_Int, go_sem, ↓if_pos, ne_eq, ↓reduceIte] <;> (repeat' apply And.intro) <;> first | rfl | (congr 1; omega) | assumption) rfl
  · simp (disch := omega) only [go_sem, ↓if_pos, ne_eq, ↓reduceIte]
    exact W_retC c6_ok rfl (Conv.drop _ fun d x h => hle _ _ (hσ _ _ h)) ⟨rfl, rfl⟩
end
end Go.Proofs.Ytabelcohkpmpnaa.Lg
