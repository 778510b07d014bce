/- Routes by what each router has chosen, and all stable states by trying all choices: as the reference's. No program. -/
import Derived.Test.YtabelcohkpmpnaaRt
set_option linter.unusedSimpArgs false
set_option linter.unusedVariables false
namespace Go.Proofs.Ytabelcohkpmpnaa.Lg
open Go
def outRt (n : Net) (env : List Int) (r : Int) : Rt := ⟨-1, 100, 2, decide (env.getD (hasI n.externals r).toNat 0 = 2)⟩
def routeO (n : Net) (env : List Int) (down : List Bool) (vias : List Int) : Nat → Int → Option Rt
  | 0, r => if vias.getD r.toNat 0 = -3 then some noRt else if vias.getD r.toNat 0 = -2 then (if 0 ≤ hasI n.origins r then some ⟨-2, 200, 0, false⟩ else none)
      else if vias.getD r.toNat 0 = -1 then (if outB n r env then some (outRt n env r) else none) else none
  | m + 1, r => if vias.getD r.toNat 0 = -3 then some noRt else if vias.getD r.toNat 0 = -2 then (if 0 ≤ hasI n.origins r then some ⟨-2, 200, 0, false⟩ else none)
      else if vias.getD r.toNat 0 = -1 then (if outB n r env then some (outRt n env r) else none)
      else if linkP n.links r (vias.getD r.toNat 0) < 0 ∨ down.getD (linkP n.links r (vias.getD r.toNat 0)).toNat false = true then none
      else match routeO n env down vias m (vias.getD r.toNat 0) with
        | none => none
        | some x => if x.via = -3 then none else importO n r (vias.getD r.toNat 0) x
def routesO (n : Net) (env : List Int) (down : List Bool) (vias : List Int) : Option (List Rt) :=
  if (List.range vias.length).all (fun (i : Nat) => (routeO n env down vias vias.length i).isSome) then some ((List.range vias.length).map fun (i : Nat) => (routeO n env down vias vias.length i).getD default) else none
def stateQ (n : Net) (env : List Int) (down : List Bool) (vias : List Int) : Option (List Rt) :=
  (routesO n env down vias).bind fun rs => if stableB n env down rs then some rs else none
theorem importO_via {n : Net} {a b : Int} {r s : Rt} (h : importO n a b r = some s) : s.via = b := impGo_via h
theorem routeO_via {n : Net} {env : List Int} {down : List Bool} {vias : List Int} {m : Nat} {r : Int} {x : Rt} (h : routeO n env down vias m r = some x) : x.via = vias.getD r.toNat 0 := by
  cases m with
  | zero =>
    unfold routeO at h
    split at h
    · cases h; rename_i e; rw [e]; rfl
    split at h
    · split at h
      · cases h; rename_i e _; rw [e]
      · cases h
    split at h
    · split at h
      · cases h; rename_i e _; rw [e]; rfl
      · cases h
    · cases h
  | succ m =>
    unfold routeO at h
    split at h
    · cases h; rename_i e; rw [e]; rfl
    split at h
    · split at h
      · cases h; rename_i e _; rw [e]
      · cases h
    split at h
    · split at h
      · cases h; rename_i e _; rw [e]; rfl
      · cases h
    split at h
    · cases h
    split at h
    · cases h
    split at h
    · cases h
    · exact importO_via h
theorem routesO_some {n : Net} {env : List Int} {down : List Bool} {vias : List Int} {rs : List Rt} (h : routesO n env down vias = some rs) : rs.length = vias.length ∧ rs.map (·.via) = vias ∧ ∀ i : Nat, i < vias.length → routeO n env down vias vias.length i = some (rs.getD i default) := by
  unfold routesO at h
  split at h
  · rename_i ha
    rw [List.all_eq_true] at ha
    cases h
    have hk : ∀ i : Nat, i < vias.length → routeO n env down vias vias.length i = some ((routeO n env down vias vias.length i).getD default) := by
      intro i hi
      have := ha i (List.mem_range.2 hi)
      obtain ⟨x, hx⟩ := Option.isSome_iff_exists.1 this
      rw [hx]; rfl
    refine ⟨by simp, ?_, ?_⟩
    · refine List.ext_getElem (by simp) fun i h1 h2 => ?_
      have := routeO_via (hk i h2)
      rw [Int.toNat_natCast] at this
      simpa [List.getD, h2] using this
    · intro i hi
      rw [hk i hi]
      simp [List.getD, hi]
  · cases h
theorem ends_rt {rs : List Rt} {m : Nat} {k : Int} (h : ends rs (m + 1) k) (hk : 0 ≤ k) : ends rs m (rtAt rs k).via := by
  rcases h with h | h
  · omega
  · exact h
theorem routeO_still {n : Net} {env : List Int} {down : List Bool} {rs : List Rt} (hs : Still n env down rs) : ∀ (m : Nat) (i : Nat), i < rs.length → ends rs (m + 1) i → routeO n env down (rs.map (·.via)) m i = some (rs.getD i default) := by
  have main : ∀ (i : Nat), i < rs.length → (rs.getD i default).via < 0 → ((rs.getD i default).via = -3 ∧ rs.getD i default = noRt) ∨ ((rs.getD i default).via = -2 ∧ 0 ≤ hasI n.origins i ∧ rs.getD i default = ⟨-2, 200, 0, false⟩) ∨ ((rs.getD i default).via = -1 ∧ outB n i env = true ∧ rs.getD i default = outRt n env i) := by
    intro i hi hv
    rcases hs.or hi with ⟨h1, _⟩ | h1
    · left; rw [h1]; exact ⟨rfl, rfl⟩
    · rcases cand_of h1 with ⟨h2, e⟩ | ⟨h2, e⟩ | ⟨v, hv1, e⟩
      · right; left; rw [e]; exact ⟨rfl, h2, rfl⟩
      · right; right; rw [e]; exact ⟨rfl, h2, rfl⟩
      · have := near_mem hv1
        have := (viaO_via e).1
        omega
  have hvi : ∀ i : Nat, i < rs.length → (rs.map (·.via)).getD (i : Int).toNat 0 = (rs.getD i default).via := by
    intro i hi
    rw [Int.toNat_natCast]
    simp [List.getD, hi]
  intro m
  induction m with
  | zero =>
    intro i hi he
    have he2 : (rs.getD i default).via < 0 := by
      have := ends_rt he (by omega)
      rw [rtAt_nat] at this; exact this
    unfold routeO
    rw [hvi i hi]
    rcases main i hi he2 with ⟨h1, h2⟩ | ⟨h1, h2, h3⟩ | ⟨h1, h2, h3⟩
    · rw [if_pos h1, h2]
    · rw [if_neg (by omega), if_pos h1, if_pos h2, h3]
    · rw [if_neg (by omega), if_neg (by omega), if_pos h1, if_pos h2, h3]
  | succ m ih =>
    intro i hi he
    unfold routeO
    rw [hvi i hi]
    by_cases hv : (rs.getD i default).via < 0
    · rcases main i hi hv with ⟨h1, h2⟩ | ⟨h1, h2, h3⟩ | ⟨h1, h2, h3⟩
      · rw [if_pos h1, h2]
      · rw [if_neg (by omega), if_pos h1, if_pos h2, h3]
      · rw [if_neg (by omega), if_neg (by omega), if_pos h1, if_pos h2, h3]
    · obtain ⟨h1, h2⟩ := hs.via hi (by omega)
      have h3 := near_mem h1
      obtain ⟨_, h4, _, h5⟩ := viaO_via h2
      have he2 := ends_rt he (by omega)
      rw [rtAt_nat] at he2
      have hl := hs.len
      have h6 := ih (rs.getD i default).via.toNat (by omega) (by rw [Int.toNat_of_nonneg (by omega)]; exact he2)
      rw [Int.toNat_of_nonneg (by omega)] at h6
      rw [if_neg (by omega), if_neg (by omega), if_neg (by omega), if_neg (fun h => h.elim (fun h => by omega) fun h => by rw [h3.2.2.2] at h; cases h), h6]
      have h7 : rs.getD (rs.getD i default).via.toNat default = rtAt rs (rs.getD i default).via := rfl
      rw [h7]
      show (if (rtAt rs (rs.getD i default).via).via = -3 then none else _) = _
      rw [if_neg h4, h5]
theorem stateQ_still {n : Net} {env : List Int} {down : List Bool} {rs : List Rt} (hs : Still n env down rs) (hb : stableB n env down rs = true) : stateQ n env down (rs.map (·.via)) = some rs := by
  have hk : ∀ i : Nat, i < rs.length → routeO n env down (rs.map (·.via)) rs.length i = some (rs.getD i default) := fun i hi =>
    routeO_still hs _ i hi (end_one (fun i hi => (hs.lt hi).2) hi (hs.some_end hi)).succ
  have h1 : routesO n env down (rs.map (·.via)) = some rs := by
    unfold routesO
    rw [List.length_map, if_pos]
    · congr 1
      refine List.ext_getElem (by simp) fun i h1 h2 => ?_
      simp only [List.getElem_map, List.getElem_range]
      rw [hk i h2]
      simp [List.getD, h2]
    · rw [List.all_eq_true]
      intro i hi
      rw [hk i (List.mem_range.1 hi)]; rfl
  unfold stateQ
  rw [h1, Option.bind_some, if_pos hb]
theorem stateQ_some {n : Net} {env : List Int} {down : List Bool} {vs : List Int} {rs : List Rt} (hl : vs.length = n.routers.length) (h : stateQ n env down vs = some rs) : Still n env down rs ∧ stableB n env down rs = true ∧ rs.map (·.via) = vs := by
  unfold stateQ at h
  rw [Option.bind_eq_some_iff] at h
  obtain ⟨r, h1, h2⟩ := h
  split at h2
  · cases h2
    rename_i hb
    obtain ⟨e1, e2, _⟩ := routesO_some h1
    exact ⟨still_of (by omega) hb, hb, e2⟩
  · cases h2
/-- What is kept of the choices while the reference works routes out. -/
structure OfV (vias : List Int) (s : List Rt × List Bool) : Prop where
  l1 : s.1.length = vias.length
  l2 : s.2.length = vias.length
  yes : ∀ i : Nat, s.2.getD i false = true → (s.1.getD i default).via = vias.getD i 0
  no : ∀ i : Nat, i < vias.length → s.2.getD i false = false → s.1.getD i default = noRt
theorem ofStep_v {n : Net} {env : List Int} {down : List Bool} {vias : List Int} {s t : List Rt × List Bool} {i : Nat} (hi : i < vias.length) (h : OfV vias s) (e : ofStep n env down vias s i = some t) : OfV vias t := by
  have hl1 := h.l1
  have hl2 := h.l2
  unfold ofStep at e
  split at e
  · cases e; exact h
  rename_i hno
  simp only [not_or, not_and, Bool.not_eq_true, Bool.not_eq_false] at hno
  have main : ∀ r : Rt, r.via = vias.getD i 0 → OfV vias (s.1.set i r, s.2.set i true) := by
    intro r hr
    refine ⟨by simp [hl1], by simp [hl2], fun j hj => ?_, fun j hj hjd => ?_⟩
    · by_cases e : j = i
      · subst e; simp only; rw [getD_set_same (by omega)]; exact hr
      · simp only at hj ⊢; rw [getD_set_ne e] at hj ⊢; exact h.yes j hj
    · by_cases e : j = i
      · subst e; simp only at hjd; rw [getD_set_same (by omega)] at hjd; cases hjd
      · simp only at hjd ⊢; rw [getD_set_ne e] at hjd ⊢; exact h.no j hj hjd
  split at e
  · rename_i h3
    cases e
    refine ⟨hl1, by simp [hl2], fun j hj => ?_, fun j hj hjd => ?_⟩
    · by_cases e : j = i
      · subst e; simp only; rw [h.no j hi hno.1, h3]; rfl
      · simp only at hj ⊢; rw [getD_set_ne e] at hj; exact h.yes j hj
    · by_cases e : j = i
      · subst e; simp only at hjd; rw [getD_set_same (by omega)] at hjd; cases hjd
      · simp only at hjd ⊢; rw [getD_set_ne e] at hjd; exact h.no j hj hjd
  · split at e
    · cases e
    · rename_i r hr
      cases e
      have hm := List.mem_of_getLast? hr
      rw [List.mem_filter] at hm
      exact main r (by simpa using hm.2)
theorem ofP_vias {n : Net} {env : List Int} {down : List Bool} {vias : List Int} {rs : List Rt} (e : ofP n env down vias = some rs) : rs.map (·.via) = vias := by
  unfold ofP at e
  rw [Option.bind_eq_some_iff] at e
  obtain ⟨s, h1, h2⟩ := e
  have hI := foldlM_mem (I := OfV vias) (fun s a t ha hs he => foldlM_mem (I := OfV vias) (fun s a t ha hs he => ofStep_v (List.mem_range.1 ha) hs he) hs he) ⟨by simp, by simp, fun i hi => ?_, fun i hi _ => by simp [List.getD, hi]⟩ h1
  · split at h2
    · rename_i hall
      cases h2
      refine List.ext_getElem (by rw [List.length_map, hI.l1]) fun i h1 h2 => ?_
      have hi2 : i < s.2.length := by rw [hI.l2]; exact h2
      have hi1 : i < s.1.length := by rw [hI.l1]; exact h2
      have := List.all_eq_true.1 hall _ (List.getElem_mem hi2)
      have := hI.yes i (by simp [List.getD, hi2]; simpa using this)
      simpa [List.getD, hi1, h2] using this
    · cases h2
  · exfalso
    by_cases h : i < vias.length
    · simp [List.getD, h] at hi
    · simp [List.getD, h] at hi
theorem stateO_some {n : Net} {env : List Int} {down : List Bool} {vs : List Int} {rs : List Rt} (hl : vs.length = n.routers.length) (h : stateO n env down vs = some rs) : Still n env down rs ∧ stableB n env down rs = true ∧ rs.map (·.via) = vs := by
  unfold stateO at h
  rw [Option.bind_eq_some_iff] at h
  obtain ⟨r, h1, h2⟩ := h
  split at h2
  · cases h2
    rename_i hb
    have e := ofP_vias h1
    have : rs.length = vs.length := by rw [← e, List.length_map]
    exact ⟨still_of (by omega) hb, hb, e⟩
  · cases h2
theorem stateQ_eq {n : Net} {env : List Int} {down : List Bool} {vs : List Int} (hl : vs.length = n.routers.length) : stateQ n env down vs = stateO n env down vs := by
  refine Option.ext fun rs => ⟨fun h => ?_, fun h => ?_⟩
  · obtain ⟨h1, h2, h3⟩ := stateQ_some hl h
    rw [← h3]
    simp [stateO, h1.of, h2]
  · obtain ⟨h1, h2, h3⟩ := stateO_some hl h
    rw [← h3]
    exact stateQ_still h1 h2
/-- The choices by their number: digits from -3 on. -/
def dig (B : Nat) : Nat → Nat → List Int
  | 0, _ => []
  | m + 1, t => dig B m (t / B) ++ [((t % B : Nat) : Int) - 3]
theorem dig_len (B : Nat) : ∀ (m t : Nat), (dig B m t).length = m := by
  intro m
  induction m with
  | zero => intro t; rfl
  | succ m ih => intro t; simp [dig, ih]
theorem dig_mul {B : Nat} (hB : 0 < B) (a q : Nat) : ∀ j : Nat, dig B (a + j) (q * B ^ j) = dig B a q ++ List.replicate j (-3) := by
  intro j
  induction j with
  | zero => simp
  | succ j ih =>
    show dig B (a + j) (q * B ^ (j + 1) / B) ++ _ = _
    have h1 : q * B ^ (j + 1) / B = q * B ^ j := by rw [Nat.pow_succ, ← Nat.mul_assoc]; exact Nat.mul_div_cancel _ hB
    have h2 : q * B ^ (j + 1) % B = 0 := by rw [Nat.pow_succ, ← Nat.mul_assoc]; exact Nat.mul_mod_left _ _
    rw [h1, h2, ih, List.replicate_succ', List.append_assoc]
    rfl
theorem range_mul {β : Type} (b : Nat) (f : Nat → List β) : ∀ a : Nat, (List.range (a * b)).flatMap f = (List.range a).flatMap fun q => (List.range b).flatMap fun r => f (q * b + r) := by
  intro a
  induction a with
  | zero => simp
  | succ a ih =>
    rw [Nat.succ_mul, List.range_add, List.flatMap_append, ih, List.range_succ, List.flatMap_append, List.flatMap_map]
    simp
theorem flat_congr {α β : Type} {f g : α → List β} {l : List α} (h : ∀ x ∈ l, f x = g x) : l.flatMap f = l.flatMap g := by
  induction l with
  | nil => rfl
  | cons x l ih => simp only [List.flatMap_cons]; rw [h x List.mem_cons_self, ih fun y hy => h y (List.mem_cons_of_mem _ hy)]
theorem near_flat {β : Type} {n : Net} {i : Int} {down : List Bool} (k : Int → List β) (hk : ∀ v : Nat, v < n.routers.length → nearB n i down v = false → k v = []) : (nearP n i down).flatMap k = (List.range n.routers.length).flatMap fun (v : Nat) => k v := by
  unfold nearP
  rw [List.flatMap_map]
  have : ∀ l : List Nat, (∀ v ∈ l, v < n.routers.length) → (l.filter (nearB n i down)).flatMap (fun (v : Nat) => k v) = l.flatMap fun (v : Nat) => k v := by
    intro l
    induction l with
    | nil => intro _; rfl
    | cons v l ih =>
      intro h
      have ih := ih fun w hw => h w (List.mem_cons_of_mem _ hw)
      cases hv : nearB n i down v with
      | true => simp [hv, ih]
      | false => simp [hv, ih, hk v (h v List.mem_cons_self) hv]
  exact this _ fun v hv => List.mem_range.1 hv
theorem opt_flat {β : Type} {n : Net} {i : Int} {env : List Int} {down : List Bool} (k : Int → List β) (hk : ∀ v : Int, v ∉ optP n i env down → k v = []) : (optP n i env down).flatMap k = (List.range (n.routers.length + 3)).flatMap fun (v : Nat) => k ((v : Int) - 3) := by
  have hnear : ∀ v ∈ nearP n i down, 0 ≤ v := fun v hv => (near_mem hv).1
  have h1 : (List.range (n.routers.length + 3)).flatMap (fun (v : Nat) => k ((v : Int) - 3)) = k (-3) ++ (k (-2) ++ (k (-1) ++ (List.range n.routers.length).flatMap fun (v : Nat) => k v)) := by
    rw [Nat.add_comm, List.range_add, List.flatMap_append, List.flatMap_map]
    have h3 : List.range 3 = [0, 1, 2] := rfl
    have h4 : ∀ v : Nat, ((3 + v : Nat) : Int) - 3 = v := fun v => by omega
    simp only [h3, h4]
    simp
  rw [h1]
  have h2 : (nearP n i down).flatMap k = (List.range n.routers.length).flatMap fun (v : Nat) => k v := near_flat k fun v hv hb => hk v fun hm => by
    unfold optP at hm
    rw [List.mem_append] at hm
    rcases hm with hm | hm
    · split at hm
      · simp at hm
      · unfold optL at hm
        rw [List.mem_append] at hm
        rcases hm with hm | hm
        · split at hm <;> simp at hm
        · split at hm <;> simp at hm
    · unfold nearP at hm
      rw [List.mem_map] at hm
      obtain ⟨w, hw, e⟩ := hm
      have : w = v := by omega
      subst this
      rw [(List.mem_filter.1 hw).2] at hb; cases hb
  rw [← h2]
  have hm3 : ∀ v : Int, v < 0 → (v ∈ optP n i env down ↔ v ∈ (if optL n i env = [] then [-3] else optL n i env)) := by
    intro v hv
    unfold optP
    rw [List.mem_append]
    exact ⟨fun h => h.elim id fun h => absurd (hnear v h) (by omega), .inl⟩
  have k3 := hk (-3)
  have k2 := hk (-2)
  have k1 := hk (-1)
  rw [hm3 _ (by omega)] at k3 k2 k1
  unfold optP
  rw [List.flatMap_append]
  unfold optL at k1 k2 k3 ⊢
  by_cases c1 : 0 ≤ hasI n.origins i <;> by_cases c2 : outB n i env = true <;> simp [c1, c2] at k1 k2 k3 ⊢ <;> simp [k1, k2, k3]
theorem choice_flat {β : Type} {n : Net} {env : List Int} {down : List Bool} : ∀ (m : Nat) (h : List Int → List β), (∀ vs : List Int, vs.length = m → (∃ i : Nat, i < m ∧ vs.getD i 0 ∉ optP n i env down) → h vs = []) →
    ((List.range m).foldl (growP n env down) [[]]).flatMap h = (List.range ((n.routers.length + 3) ^ m)).flatMap fun t => h (dig (n.routers.length + 3) m t) := by
  intro m
  induction m with
  | zero => intro h _; simp [dig]
  | succ m ih =>
    intro h hh
    rw [List.range_succ, List.foldl_append]
    simp only [List.foldl_cons, List.foldl_nil]
    generalize hC : (List.range m).foldl (growP n env down) [[]] = C at *
    have hCl : ∀ c ∈ C, c.length = m := by
      intro c hc
      have : ∀ (m : Nat), ∀ vs ∈ (List.range m).foldl (growP n env down) [[]], vs.length = m := by
        intro m
        induction m with
        | zero => intro vs h; simp at h; subst h; rfl
        | succ m ih =>
          intro vs h
          rw [List.range_succ, List.foldl_append] at h
          simp only [List.foldl_cons, List.foldl_nil, growP, List.mem_flatMap, List.mem_map] at h
          obtain ⟨c, hc, v, hv, rfl⟩ := h
          rw [List.length_append, ih c hc]; rfl
      exact this m c (by rw [hC]; exact hc)
    have h1 : (growP n env down C m).flatMap h = C.flatMap fun c => (optP n m env down).flatMap fun v => h (c ++ [v]) := by
      unfold growP
      rw [List.flatMap_assoc]
      congr 1; funext c
      rw [List.flatMap_map]
    have h2 : C.flatMap (fun c => (optP n m env down).flatMap fun v => h (c ++ [v])) = C.flatMap fun c => (List.range (n.routers.length + 3)).flatMap fun (v : Nat) => h (c ++ [(v : Int) - 3]) := by
      have : ∀ c ∈ C, ((optP n m env down).flatMap fun v => h (c ++ [v])) = (List.range (n.routers.length + 3)).flatMap fun (v : Nat) => h (c ++ [(v : Int) - 3]) := by
        intro c hc
        refine opt_flat (fun v => h (c ++ [v])) fun v hv => hh _ (by simp [hCl c hc]) ⟨m, by omega, ?_⟩
        have : (c ++ [v]).getD m 0 = v := by rw [← hCl c hc]; simp [List.getD]
        rw [this]; exact hv
      exact flat_congr this
    rw [h1, h2, ih (fun c => (List.range (n.routers.length + 3)).flatMap fun (v : Nat) => h (c ++ [(v : Int) - 3])) ?_, Nat.pow_succ, range_mul]
    · refine flat_congr fun q hq => ?_
      refine flat_congr fun r hr => ?_
      have hr := List.mem_range.1 hr
      have e1 : (q * (n.routers.length + 3) + r) / (n.routers.length + 3) = q := by
        rw [Nat.mul_comm, Nat.mul_add_div (by omega), Nat.div_eq_of_lt hr]; rfl
      have e2 : (q * (n.routers.length + 3) + r) % (n.routers.length + 3) = r := by
        rw [Nat.mul_comm, Nat.mul_add_mod, Nat.mod_eq_of_lt hr]
      rw [dig, e1, e2]
    · rintro vs hv ⟨i, hi, ho⟩
      rw [List.flatMap_eq_nil_iff]
      intro v _
      refine hh _ (by simp [hv]) ⟨i, by omega, ?_⟩
      have : (vs ++ [((v : Nat) : Int) - 3]).getD i 0 = vs.getD i 0 := by
        simp [List.getD, List.getElem?_append, hv, hi]
      rw [this]; exact ho
def stQ (n : Net) (env : List Int) (down : List Bool) (t : Nat) : Option (List Rt) := stateQ n env down (dig (n.routers.length + 3) n.routers.length t)
theorem states_all {n : Net} {env : List Int} {down : List Bool} : (List.range ((n.routers.length + 3) ^ n.routers.length)).filterMap (stQ n env down) = statesP n env down := by
  have hf : ∀ {α β : Type} (g : α → Option β) (l : List α), l.filterMap g = l.flatMap fun x => (g x).toList := by
    intro α β g l
    induction l with
    | nil => rfl
    | cons x l ih => cases h : g x <;> simp [h, ih]
  unfold statesP
  rw [hf, hf]
  have h1 := choice_flat (n := n) (env := env) (down := down) n.routers.length (fun vs => (stateO n env down vs).toList) ?_
  · have h2 : (List.range n.routers.length).foldl (growP n env down) [[]] = choiceP n env down := rfl
    rw [h2] at h1
    rw [h1]
    congr 1; funext t
    unfold stQ
    rw [stateQ_eq (dig_len _ _ _)]
  · rintro vs hl ⟨i, hi, ho⟩
    cases h : stateO n env down vs with
    | none => rfl
    | some rs =>
      exfalso
      obtain ⟨h1, h2, h3⟩ := stateO_some hl h
      have hm := h1.mem h2
      simp only [statesP, List.mem_filterMap] at hm
      obtain ⟨ws, hw, hws⟩ := hm
      have hwl := choice_len hw
      obtain ⟨_, _, h5⟩ := stateO_some hwl hws
      rw [h3] at h5
      subst h5
      have : ∀ (m : Nat), ∀ vs ∈ (List.range m).foldl (growP n env down) [[]], vs.length = m ∧ ∀ i : Nat, i < m → vs.getD i 0 ∈ optP n i env down := by
        intro m
        induction m with
        | zero => intro vs h; simp at h; subst h; exact ⟨rfl, fun i hi => by omega⟩
        | succ m ih =>
          intro vs h
          rw [List.range_succ, List.foldl_append] at h
          simp only [List.foldl_cons, List.foldl_nil, growP, List.mem_flatMap, List.mem_map] at h
          obtain ⟨c, hc, v, hv, rfl⟩ := h
          obtain ⟨i1, i2⟩ := ih c hc
          refine ⟨by simp [i1], fun i hi => ?_⟩
          by_cases e : i = m
          · subst e
            have : (c ++ [v]).getD i 0 = v := by rw [← i1]; simp [List.getD]
            rw [this]; exact hv
          · have : (c ++ [v]).getD i 0 = c.getD i 0 := by simp [List.getD, List.getElem?_append, i1, show i < m by omega]
            rw [this]; exact i2 i (by omega)
      exact ho ((this _ vs hw).2 i hi)
end Go.Proofs.Ytabelcohkpmpnaa.Lg
