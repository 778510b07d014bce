/- Circuits: the plain law of what is built. -/
import Derived.Test.YtlidjjjpjndneaaEn
set_option linter.unusedSimpArgs false
set_option linter.unusedVariables false
namespace Go.Proofs.Ytlidjjjpjndneaa.Lg
open Go
section
variable {inp : Int} {gs gs' : List (Int × Int)} {x y : Int} {vs : List Bool}
theorem findIdx_prefix {g : Int × Int} {i : Nat} (h : gs.findIdx? (· == g) = some i) (hp : gs <+: gs') : gs'.findIdx? (· == g) = some i := by
  obtain ⟨t, rfl⟩ := hp
  rw [List.findIdx?_append, h]; rfl
theorem findIdx_new {g : Int × Int} (h : gs.findIdx? (· == g) = none) : (gs ++ [g]).findIdx? (· == g) = some gs.length := by
  rw [List.findIdx?_append, h]; simp
theorem andP_pre (inp : Int) (gs : List (Int × Int)) (x y : Int) : gs <+: (andP inp gs x y).2 := by
  unfold andP
  split
  · exact List.prefix_refl _
  split
  · exact List.prefix_refl _
  split
  · exact List.prefix_refl _
  split
  · exact List.prefix_refl _
  · exact List.prefix_append _ _
theorem orP_pre (inp : Int) (gs : List (Int × Int)) (x y : Int) : gs <+: (orP inp gs x y).2 := andP_pre _ _ _ _
/-- What was built is found again. -/
theorem andP_again (hp : (andP inp gs x y).2 <+: gs') : andP inp gs' x y = ((andP inp gs x y).1, gs') := by
  simp only [andP] at hp ⊢
  by_cases h1 : min x y = 0
  · simp only [if_pos h1]
  simp only [if_neg h1] at hp ⊢
  by_cases h2 : min x y = 1 ∨ min x y = max x y
  · simp only [if_pos h2]
  simp only [if_neg h2] at hp ⊢
  by_cases h3 : min x y / 2 = max x y / 2
  · simp only [if_pos h3]
  simp only [if_neg h3] at hp ⊢
  cases hf : gs.findIdx? (· == (min x y, max x y)) with
  | some i => rw [hf] at hp; simp only at hp ⊢; rw [findIdx_prefix hf hp]
  | none => rw [hf] at hp; simp only at hp ⊢; rw [findIdx_prefix (findIdx_new hf) hp]
theorem orP_again (hp : (orP inp gs x y).2 <+: gs') : orP inp gs' x y = ((orP inp gs x y).1, gs') := by
  unfold orP at *; rw [andP_again hp]
theorem two_pre (inp : Int) (gs : List (Int × Int)) (a b c d p q : Int) : (andP inp gs a b).2 <+: (orP inp (andP inp (andP inp gs a b).2 c d).2 p q).2 := (andP_pre _ _ _ _).trans (orP_pre _ _ _ _)
theorem opP_pre (inp k : Int) (l : List Int) (gs : List (Int × Int)) : gs <+: (opP inp k l gs).2 := by
  unfold opP
  split
  · exact List.prefix_refl _
  split
  · exact andP_pre _ _ _ _
  split
  · exact orP_pre _ _ _ _
  split
  · exact (andP_pre _ _ _ _).trans (two_pre _ _ _ _ _ _ _ _)
  · exact (andP_pre _ _ _ _).trans (two_pre _ _ _ _ _ _ _ _)
theorem two_again {a b c d : Int} (hp : (orP inp (andP inp (andP inp gs a b).2 c d).2 (andP inp gs a b).1 (andP inp (andP inp gs a b).2 c d).1).2 <+: gs') :
    orP inp (andP inp (andP inp gs' a b).2 c d).2 (andP inp gs' a b).1 (andP inp (andP inp gs' a b).2 c d).1 = ((orP inp (andP inp (andP inp gs a b).2 c d).2 (andP inp gs a b).1 (andP inp (andP inp gs a b).2 c d).1).1, gs') := by
  have h1 := andP_again ((two_pre _ _ _ _ _ _ _ _).trans hp)
  have h2 := andP_again ((orP_pre _ _ _ _).trans hp)
  rw [h1]; dsimp only
  rw [h2]; dsimp only
  exact orP_again hp
theorem opP_again {k : Int} {l : List Int} (hp : (opP inp k l gs).2 <+: gs') : opP inp k l gs' = ((opP inp k l gs).1, gs') := by
  simp only [opP] at hp ⊢
  by_cases h1 : k = 3
  · simp only [if_pos h1]
  simp only [if_neg h1] at hp ⊢
  by_cases h2 : k = 4
  · simp only [if_pos h2] at hp ⊢; exact andP_again hp
  simp only [if_neg h2] at hp ⊢
  by_cases h3 : k = 5
  · simp only [if_pos h3] at hp ⊢; exact orP_again hp
  simp only [if_neg h3] at hp ⊢
  by_cases h4 : k = 6
  · simp only [if_pos h4] at hp ⊢; exact two_again hp
  simp only [if_neg h4] at hp ⊢; exact two_again hp
theorem makeL_pre {ks : List Ex} (h : ∀ e ∈ ks, ∀ gs, gs <+: (makeP inp e gs).2) : ∀ gs, gs <+: (makeL inp ks gs).2 := by
  induction ks with
  | nil => intro gs; exact List.prefix_refl _
  | cons e r ih => intro gs; simp only [makeL]; exact (h e (by simp) gs).trans (ih (fun x hx => h x (by simp [hx])) _)
theorem makeP_pre (inp : Int) : ∀ e gs, gs <+: (makeP inp e gs).2 := by
  refine Ex.ind fun k n ks ih gs => ?_
  simp only [makeP]
  split
  · exact List.prefix_refl _
  split
  · exact List.prefix_refl _
  · exact (makeL_pre ih gs).trans (opP_pre _ _ _ _)
theorem makeL_again {ks : List Ex} (h : ∀ e ∈ ks, ∀ gs gs', (makeP inp e gs).2 <+: gs' → makeP inp e gs' = ((makeP inp e gs).1, gs')) : ∀ gs gs', (makeL inp ks gs).2 <+: gs' → makeL inp ks gs' = ((makeL inp ks gs).1, gs') := by
  induction ks with
  | nil => intro gs gs' _; rfl
  | cons e r ih =>
    intro gs gs' hp
    simp only [makeL] at hp ⊢
    have h1 := h e (by simp) gs gs' ((makeL_pre (fun e _ => makeP_pre inp e) _).trans hp)
    have h2 := ih (fun x hx => h x (by simp [hx])) _ _ hp
    rw [h1]; dsimp only
    rw [h2]
theorem makeP_again (inp : Int) : ∀ e gs gs', (makeP inp e gs).2 <+: gs' → makeP inp e gs' = ((makeP inp e gs).1, gs') := by
  refine Ex.ind fun k n ks ih gs gs' hp => ?_
  simp only [makeP] at hp ⊢
  by_cases h1 : k = 1
  · simp only [if_pos h1]
  simp only [if_neg h1] at hp ⊢
  by_cases h2 : k = 2
  · simp only [if_pos h2]
  simp only [if_neg h2] at hp ⊢
  have h3 := makeL_again ih gs gs' ((opP_pre _ _ _ _).trans hp)
  rw [h3]; dsimp only
  exact opP_again hp
/-! Gates are right -/
theorem gates_nil : GatesOK inp [] := fun i h => by simp at h
theorem gates_app (hg : GatesOK inp gs) (h1 : 2 ≤ x) (h2 : x < y) (h3 : y < 2 * (1 + inp + gs.length)) (h4 : ¬ x / 2 = y / 2) (h5 : gs.findIdx? (· == (x, y)) = none) : GatesOK inp (gs ++ [(x, y)]) := by
  intro i hi
  simp only [List.length_append, List.length_singleton] at hi
  rcases Nat.lt_or_ge i gs.length with h | h
  · have e : (gs ++ [(x, y)]).getD i default = gs.getD i default := by simp [List.getD, List.getElem?_append_left h]
    have t : (gs ++ [(x, y)]).take i = gs.take i := by rw [List.take_append_of_le_length (by omega)]
    rw [e, t]; exact hg i h
  · obtain rfl : i = gs.length := by omega
    have e : (gs ++ [(x, y)]).getD gs.length default = (x, y) := by simp [List.getD]
    have t : (gs ++ [(x, y)]).take gs.length = gs := by simp
    rw [e, t]; exact ⟨h1, h2, h3, h4, h5⟩
theorem andP_gates (hg : GatesOK inp gs) (hx : LitOK inp gs x) (hy : LitOK inp gs y) : GatesOK inp (andP inp gs x y).2 := by
  unfold LitOK at hx hy
  unfold andP
  split
  · exact hg
  split
  · exact hg
  split
  · exact hg
  split
  · exact hg
  · rename_i h1 h2 h3 _ hf
    exact gates_app hg (by omega) (by omega) (by omega) h3 hf
theorem orP_gates (hg : GatesOK inp gs) (hx : LitOK inp gs x) (hy : LitOK inp gs y) : GatesOK inp (orP inp gs x y).2 := andP_gates hg (notP_ok hx) (notP_ok hy)
theorem opP_gates {k : Int} {l : List Int} (hi : 0 ≤ inp) (hg : GatesOK inp gs) (hl : ∀ x ∈ l, LitOK inp gs x) (hk : 3 ≤ k) (hn : arity k ≤ l.length) (hk7 : k ≤ 7) : GatesOK inp (opP inp k l gs).2 := by
  have hgt : ∀ i : Nat, (i : Int) < arity k → LitOK inp gs (l.getD i 0) := fun i h => hl _ (getD_mem 0 (by omega))
  have two : ∀ {a b c d : Int}, LitOK inp gs a → LitOK inp gs b → LitOK inp gs c → LitOK inp gs d → GatesOK inp (orP inp (andP inp (andP inp gs a b).2 c d).2 (andP inp gs a b).1 (andP inp (andP inp gs a b).2 c d).1).2 := by
    intro a b c d ha hb hc hd
    obtain ⟨a1, b1, _⟩ := andP_ok hi ha hb
    obtain ⟨a2, b2, _⟩ := andP_ok hi (hc.mono b1) (hd.mono b1)
    exact orP_gates (andP_gates (andP_gates hg ha hb) (hc.mono b1) (hd.mono b1)) (a1.mono b2) a2
  have hkk : k = 3 ∨ k = 4 ∨ k = 5 ∨ k = 6 ∨ k = 7 := by omega
  rcases hkk with rfl | rfl | rfl | rfl | rfl
  · exact hg
  · exact andP_gates hg (hgt 0 (by decide)) (hgt 1 (by decide))
  · exact orP_gates hg (hgt 0 (by decide)) (hgt 1 (by decide))
  · exact two (hgt 0 (by decide)) (notP_ok (hgt 1 (by decide))) (notP_ok (hgt 0 (by decide))) (hgt 1 (by decide))
  · exact two (hgt 0 (by decide)) (hgt 1 (by decide)) (notP_ok (hgt 0 (by decide))) (hgt 2 (by decide))
/-! Values -/
theorem nodesP_app (vs : List Bool) (gs t : List (Int × Int)) : nodesP vs gs <+: nodesP vs (gs ++ t) := by
  unfold nodesP
  rw [List.foldl_append]
  generalize gs.foldl (fun ns g => ns ++ [valP ns g.1 && valP ns g.2]) (false :: vs) = a
  induction t generalizing a with
  | nil => exact List.prefix_refl _
  | cons g r ih => rw [List.foldl_cons]; exact (List.prefix_append _ _).trans (ih _)
theorem valP_pre {ns ns' : List Bool} (h : ns <+: ns') (hl : (x / 2).toNat < ns.length) : valP ns' x = valP ns x := by
  obtain ⟨t, rfl⟩ := h
  unfold valP
  have : (ns ++ t).getD (x / 2).toNat false = ns.getD (x / 2).toNat false := by simp [List.getD, List.getElem?_append_left hl]
  rw [this]
theorem lit_lt (hv : (vs.length : Int) = inp) (hx : LitOK inp gs x) : (x / 2).toNat < (nodesP vs gs).length := by
  rw [nodesP_len]; unfold LitOK at hx; omega
theorem valP_mono (hv : (vs.length : Int) = inp) (hp : gs <+: gs') (hx : LitOK inp gs x) : valP (nodesP vs gs') x = valP (nodesP vs gs) x := by
  obtain ⟨t, rfl⟩ := hp
  exact valP_pre (nodesP_app _ _ _) (lit_lt hv hx)
theorem valP_not {ns : List Bool} (hx : 0 ≤ x) : valP ns (notP x) = !valP ns x := by
  unfold valP notP
  by_cases h : x % 2 = 1
  · rw [if_pos h, show (x - 1) / 2 = x / 2 by omega, decide_eq_true h, decide_eq_false (show ¬ (x - 1) % 2 = 1 by omega)]
    cases ns.getD (x / 2).toNat false <;> rfl
  · rw [if_neg h, show (x + 1) / 2 = x / 2 by omega, decide_eq_false h, decide_eq_true (show (x + 1) % 2 = 1 by omega)]
    cases ns.getD (x / 2).toNat false <;> rfl
theorem nodesP_zero (vs : List Bool) (gs : List (Int × Int)) : (nodesP vs gs).getD 0 false = false := by
  have h := nodesP_app vs [] gs
  rw [List.nil_append] at h
  obtain ⟨t, ht⟩ := h
  rw [← ht]; rfl
theorem val_zero (vs : List Bool) (gs : List (Int × Int)) : valP (nodesP vs gs) 0 = false := by
  have := nodesP_zero vs gs
  show ((nodesP vs gs).getD 0 false != false) = false
  rw [this]; rfl
theorem val_one (vs : List Bool) (gs : List (Int × Int)) : valP (nodesP vs gs) 1 = true := by
  have := nodesP_zero vs gs
  show ((nodesP vs gs).getD 0 false != true) = true
  rw [this]; rfl
theorem val_gate (hv : (vs.length : Int) = inp) (hg : GatesOK inp gs) {i : Nat} (hi : i < gs.length) : valP (nodesP vs gs) (2 * (1 + inp + i)) = (valP (nodesP vs gs) (gs.getD i default).1 && valP (nodesP vs gs) (gs.getD i default).2) := by
  obtain ⟨q1, q2, q3, _, _⟩ := hg i hi
  have hp : gs.take i <+: gs := List.take_prefix _ _
  have hp1 : gs.take (i + 1) <+: gs := List.take_prefix _ _
  have hl : (gs.take i).length = i := by rw [List.length_take]; omega
  have hl1 : (gs.take (i + 1)).length = i + 1 := by rw [List.length_take]; omega
  have k1 := valP_mono hv hp (x := (gs.getD i default).1) ⟨by omega, by rw [hl]; omega⟩
  have k2 := valP_mono hv hp (x := (gs.getD i default).2) ⟨by omega, by rw [hl]; omega⟩
  rw [valP_mono hv hp1 (x := 2 * (1 + inp + i)) ⟨by omega, by rw [hl1]; omega⟩, k1, k2, nodesP_succ hi]
  generalize hns : nodesP vs (gs.take i) = ns
  have hnl : ns.length = 1 + vs.length + i := by rw [← hns, nodesP_len, hl]
  generalize (valP ns (gs.getD i default).1 && valP ns (gs.getD i default).2) = w
  unfold valP
  rw [show (2 * (1 + inp + (i : Int)) / 2).toNat = ns.length by omega, decide_eq_false (show ¬ 2 * (1 + inp + (i : Int)) % 2 = 1 by omega)]
  simp [List.getD]
theorem min_max_and (f : Int → Bool) (x y : Int) : (f x && f y) = (f (min x y) && f (max x y)) := by
  rcases Int.le_total x y with h | h
  · rw [Int.min_eq_left h, Int.max_eq_right h]
  · rw [Int.min_eq_right h, Int.max_eq_left h, Bool.and_comm]
theorem andP_val (hv : (vs.length : Int) = inp) (hg : GatesOK inp gs) (hx : LitOK inp gs x) (hy : LitOK inp gs y) : valP (nodesP vs (andP inp gs x y).2) (andP inp gs x y).1 = (valP (nodesP vs gs) x && valP (nodesP vs gs) y) := by
  have hx' := hx
  have hy' := hy
  unfold LitOK at hx' hy'
  rw [min_max_and (valP (nodesP vs gs)) x y]
  simp only [andP]
  by_cases h1 : min x y = 0
  · simp only [if_pos h1]; rw [h1, val_zero]; rfl
  simp only [if_neg h1]
  by_cases h2 : min x y = 1 ∨ min x y = max x y
  · simp only [if_pos h2]
    rcases h2 with h2 | h2
    · rw [h2, val_one]; rfl
    · rw [h2, Bool.and_self]
  simp only [if_neg h2]
  by_cases h3 : min x y / 2 = max x y / 2
  · simp only [if_pos h3]
    have e : max x y = notP (min x y) := by unfold notP; split <;> omega
    rw [val_zero, e, valP_not (by omega)]
    cases valP (nodesP vs gs) (min x y) <;> rfl
  simp only [if_neg h3]
  cases hf : gs.findIdx? (· == (min x y, max x y)) with
  | some i =>
    simp only
    rw [List.findIdx?_eq_some_iff_getElem] at hf
    obtain ⟨hi, he, _⟩ := hf
    rw [val_gate hv hg hi]
    have : gs.getD i default = (min x y, max x y) := by simpa [List.getD, hi] using he
    rw [this]
  | none =>
    simp only
    have hg' := gates_app hg (x := min x y) (y := max x y) (by omega) (by omega) (by omega) h3 hf
    have hp : gs <+: gs ++ [(min x y, max x y)] := List.prefix_append _ _
    rw [val_gate hv hg' (by simp)]
    have : (gs ++ [(min x y, max x y)]).getD gs.length default = (min x y, max x y) := by simp [List.getD]
    rw [this]
    dsimp only
    rw [valP_mono hv hp (x := min x y) ⟨by omega, by omega⟩, valP_mono hv hp (x := max x y) ⟨by omega, by omega⟩]
theorem orP_val (hv : (vs.length : Int) = inp) (hi : 0 ≤ inp) (hg : GatesOK inp gs) (hx : LitOK inp gs x) (hy : LitOK inp gs y) : valP (nodesP vs (orP inp gs x y).2) (orP inp gs x y).1 = (valP (nodesP vs gs) x || valP (nodesP vs gs) y) := by
  unfold orP
  dsimp only
  rw [valP_not (andP_ok hi (notP_ok hx) (notP_ok hy)).1.1, andP_val hv hg (notP_ok hx) (notP_ok hy), valP_not hx.1, valP_not hy.1]
  cases valP (nodesP vs gs) x <;> cases valP (nodesP vs gs) y <;> rfl
theorem two_val {a b c d : Int} (hv : (vs.length : Int) = inp) (hi : 0 ≤ inp) (hg : GatesOK inp gs) (ha : LitOK inp gs a) (hb : LitOK inp gs b) (hc : LitOK inp gs c) (hd : LitOK inp gs d) :
    valP (nodesP vs (orP inp (andP inp (andP inp gs a b).2 c d).2 (andP inp gs a b).1 (andP inp (andP inp gs a b).2 c d).1).2) (orP inp (andP inp (andP inp gs a b).2 c d).2 (andP inp gs a b).1 (andP inp (andP inp gs a b).2 c d).1).1 = ((valP (nodesP vs gs) a && valP (nodesP vs gs) b) || (valP (nodesP vs gs) c && valP (nodesP vs gs) d)) := by
  obtain ⟨a1, b1, _⟩ := andP_ok hi ha hb
  obtain ⟨a2, b2, _⟩ := andP_ok hi (hc.mono b1) (hd.mono b1)
  have g1 := andP_gates hg ha hb
  have g2 := andP_gates g1 (hc.mono b1) (hd.mono b1)
  rw [orP_val hv hi g2 (a1.mono b2) a2, valP_mono hv b2 a1, andP_val hv hg ha hb, andP_val hv g1 (hc.mono b1) (hd.mono b1), valP_mono hv b1 hc, valP_mono hv b1 hd]
theorem getD_map {α β : Type} (f : α → β) {l : List α} {i : Nat} (d : α) (d' : β) (h : i < l.length) : (l.map f).getD i d' = f (l.getD i d) := by simp [List.getD, h]
theorem makeL_val {ks : List Ex} (hi : 0 ≤ inp) (hv : (vs.length : Int) = inp) (hr : ∀ e ∈ ks, rightE e = true) (hm : mostL ks < inp)
    (h : ∀ e ∈ ks, ∀ gs, mostE e < inp → GatesOK inp gs → GatesOK inp (makeP inp e gs).2 ∧ valP (nodesP vs (makeP inp e gs).2) (makeP inp e gs).1 = evE vs e) :
    ∀ gs, GatesOK inp gs → GatesOK inp (makeL inp ks gs).2 ∧ (makeL inp ks gs).1.map (valP (nodesP vs (makeL inp ks gs).2)) = evL vs ks := by
  induction ks with
  | nil => intro gs hg; exact ⟨hg, rfl⟩
  | cons e r ih =>
    intro gs hg
    simp only [mostL] at hm
    obtain ⟨g1, v1⟩ := h e (by simp) gs (by omega) hg
    obtain ⟨g2, v2⟩ := ih (fun x hx => hr x (by simp [hx])) (by omega) (fun x hx => h x (by simp [hx])) _ g1
    have k := (makeP_ok hi e (hr e (by simp)) gs (by omega)).1
    simp only [makeL, evL, List.map_cons]
    exact ⟨g2, by rw [v2, valP_mono hv (makeL_pre (fun e _ => makeP_pre inp e) _) k, v1]⟩
theorem makeP_val (hi : 0 ≤ inp) (hv : (vs.length : Int) = inp) : ∀ e, rightE e = true → ∀ gs, mostE e < inp → GatesOK inp gs → GatesOK inp (makeP inp e gs).2 ∧ valP (nodesP vs (makeP inp e gs).2) (makeP inp e gs).1 = evE vs e := by
  refine Ex.ind fun k n ks ih hr gs hm hg => ?_
  have hk := right_kids hr
  simp only [mostE] at hm
  rcases kinds hr with ⟨rfl, rfl, h0, h1⟩ | ⟨rfl, rfl, h⟩ | ⟨h3, h7, rfl, hl⟩
  · simp only [makeP, evE, ↓reduceIte] at hm ⊢
    refine ⟨hg, ?_⟩
    have h := nodesP_app vs [] gs
    rw [List.nil_append] at h
    have hl0 : ((2 * n + 2) / 2).toNat < (nodesP vs []).length := by rw [nodesP_len]; simp; omega
    rw [valP_pre h hl0]
    unfold valP
    rw [decide_eq_false (show ¬ (2 * n + 2) % 2 = 1 by omega), show ((2 * n + 2) / 2).toNat = n.toNat + 1 by omega]
    simp [nodesP]
  · simp only [makeP, evE, ↓reduceIte, Int.reduceEq]
    refine ⟨hg, ?_⟩
    rcases h with rfl | rfl
    · rw [val_zero]; rfl
    · rw [val_one]; rfl
  · have hL := makeL_ok (fun e he => makeP_ok hi e (hk e he)) (by omega) gs
    obtain ⟨g1, v1⟩ := makeL_val hi hv hk (by omega) (fun e he => ih e he (hk e he)) gs hg
    have hll := hL.2.2.2
    have hlk := hL.1
    simp only [makeP, evE]
    rw [if_neg (by omega), if_neg (by omega), if_neg (by omega), if_neg (by omega), ← v1]
    generalize makeL inp ks gs = M at *
    obtain ⟨l, gs2⟩ := M
    dsimp only at *
    have hO := opP_gates (k := k) hi g1 hlk h3 (by rw [hll, hl]; exact Int.le_refl _) h7
    refine ⟨hO, ?_⟩
    have hgt : ∀ i : Nat, (i : Int) < arity k → LitOK inp gs2 (l.getD i 0) := fun i h => hlk _ (getD_mem 0 (by omega))
    have hmp : ∀ i : Nat, (i : Int) < arity k → (l.map (valP (nodesP vs gs2))).getD i false = valP (nodesP vs gs2) (l.getD i 0) := fun i h => getD_map _ _ _ (by omega)
    have hkk : k = 3 ∨ k = 4 ∨ k = 5 ∨ k = 6 ∨ k = 7 := by omega
    rcases hkk with rfl | rfl | rfl | rfl | rfl
    · rw [hmp 0 (by decide)]
      show valP (nodesP vs gs2) (notP (l.getD 0 0)) = _
      rw [valP_not (hgt 0 (by decide)).1]; rfl
    · rw [hmp 0 (by decide), hmp 1 (by decide)]
      exact andP_val hv g1 (hgt 0 (by decide)) (hgt 1 (by decide))
    · rw [hmp 0 (by decide), hmp 1 (by decide)]
      exact orP_val hv hi g1 (hgt 0 (by decide)) (hgt 1 (by decide))
    · rw [hmp 0 (by decide), hmp 1 (by decide)]
      have := two_val hv hi g1 (hgt 0 (by decide)) (notP_ok (hgt 1 (by decide))) (notP_ok (hgt 0 (by decide))) (hgt 1 (by decide))
      rw [valP_not (hgt 0 (by decide)).1, valP_not (hgt 1 (by decide)).1] at this
      refine Eq.trans (by rfl) (this.trans ?_)
      cases valP (nodesP vs gs2) (l.getD 0 0) <;> cases valP (nodesP vs gs2) (l.getD 1 0) <;> rfl
    · rw [hmp 0 (by decide), hmp 1 (by decide), hmp 2 (by decide)]
      have := two_val hv hi g1 (hgt 0 (by decide)) (hgt 1 (by decide)) (notP_ok (hgt 0 (by decide))) (hgt 2 (by decide))
      rw [valP_not (hgt 0 (by decide)).1] at this
      refine Eq.trans (by rfl) (this.trans ?_)
      cases valP (nodesP vs gs2) (l.getD 0 0) <;> cases valP (nodesP vs gs2) (l.getD 1 0) <;> cases valP (nodesP vs gs2) (l.getD 2 0) <;> rfl
end
/-! Bounds -/
theorem szB_mono {d d' : Nat} (h : d ≤ d') : szB d ≤ szB d' := by
  obtain ⟨k, rfl⟩ : ∃ k, d' = d + k := ⟨d' - d, by omega⟩
  clear h
  induction k with
  | zero => exact Nat.le_refl _
  | succ k ih => rw [← Nat.add_assoc, szB]; omega
theorem depthE_pos (e : Ex) : 1 ≤ depthE e := by obtain ⟨k, n, ks⟩ := e; simp only [depthE]; omega
theorem inner_le : ∀ e, rightE e = true → innerE e ≤ szB (depthE e - 1) := by
  refine Ex.ind fun k n ks ih hr => ?_
  have hk := right_kids hr
  have hL : ∀ l : List Ex, (∀ e ∈ l, e ∈ ks) → innerL l ≤ l.length * szB (depthL l - 1) := by
    intro l
    induction l with
    | nil => intro _; simp [innerL]
    | cons e r ihl =>
      intro h
      have h1 := ih e (h e (by simp)) (hk e (h e (by simp)))
      have h2 := ihl fun x hx => h x (by simp [hx])
      simp only [innerL, depthL, List.length_cons, Nat.add_mul, Nat.one_mul]
      have m1 := szB_mono (show depthE e - 1 ≤ max (depthE e) (depthL r) - 1 by omega)
      have m2 := szB_mono (show depthL r - 1 ≤ max (depthE e) (depthL r) - 1 by omega)
      have m3 := Nat.mul_le_mul_left r.length m2
      omega
  rcases kinds hr with ⟨rfl, rfl, h0, h1⟩ | ⟨rfl, rfl, h⟩ | ⟨h3, h7, rfl, hl⟩
  · simp [innerE, innerL]
  · simp [innerE, innerL]
  · have h4 := hL ks fun _ h => h
    have h5 := arity_le k
    have h6 : 1 ≤ ks.length := by
      have : 1 ≤ arity k := by unfold arity; (repeat' split) <;> omega
      omega
    have h7 : 1 ≤ depthL ks := by
      obtain ⟨e, r, rfl⟩ : ∃ e r, ks = e :: r := by
        cases ks with
        | nil => simp at h6
        | cons e r => exact ⟨e, r, rfl⟩
      have := depthE_pos e
      simp only [depthL]; omega
    simp only [innerE, depthE]
    rw [if_neg (by omega)]
    obtain ⟨d, hd⟩ : ∃ d, depthL ks = d + 1 := ⟨depthL ks - 1, by omega⟩
    rw [hd] at h4 ⊢
    rw [show 1 + (d + 1) - 1 = d + 1 by omega, szB]
    rw [show d + 1 - 1 = d by omega] at h4
    have h8 : ks.length * szB d ≤ 3 * szB d := Nat.mul_le_mul_right _ (by omega)
    omega
theorem ExD.inner {e : Ex} (h : ExD 5 e) : innerE e ≤ 40 := by
  have h1 := inner_le e h.right
  have h2 := h.depth
  have h3 := szB_mono (show depthE e - 1 ≤ 4 by omega)
  have h4 : szB 4 = 40 := by decide
  omega
theorem ExD.ok {e : Ex} (h : ExD 5 e) : okE e = true := by
  have h2 := h.depth
  have h3 := h.size
  have h4 : szB 5 = 121 := by decide
  simp only [okE, Bool.and_eq_true, decide_eq_true_eq]
  exact ⟨⟨h.right, by omega⟩, by omega⟩
theorem ExD.fit {e g : Ex} (he : ExD 5 e) (hg : ExD 5 g) : Fit 4 [e, g, e] := by
  have h1 := he.inner
  have h2 := hg.inner
  have h3 := he.most
  have h4 := hg.most
  refine ⟨?_, ?_, ?_, by simp⟩
  · intro x hx
    simp only [List.mem_cons, List.not_mem_nil, or_false] at hx
    rcases hx with rfl | rfl | rfl
    · exact he.ok
    · exact hg.ok
    · exact he.ok
  · simp only [mostL]; omega
  · simp only [innerL]; omega
theorem ExD.fit1 {e : Ex} (he : ExD 5 e) : Fit 4 [e] := by
  have h1 := he.inner
  have h3 := he.most
  refine ⟨?_, ?_, ?_, by simp⟩
  · intro x hx
    simp only [List.mem_cons, List.not_mem_nil, or_false] at hx
    subst hx
    exact he.ok
  · simp only [mostL]; omega
  · simp only [innerL]; omega
/-- What the law of circuits says, without a program. -/
theorem builds_plain {e g : Ex} (he : ExD 5 e) (hg : ExD 5 g) : ∃ l1 l2 gs, makeL 4 [e, g, e] [] = ([l1, l2, l1], gs) ∧ GatesOK 4 gs ∧ gs.length ≤ 400 ∧ (∀ x ∈ [l1, l2, l1], LitOK 4 gs x) ∧
    ∀ vs : List Bool, vs.length = 4 → [l1, l2, l1].map (valP (nodesP vs gs)) = [evE vs e, evE vs g, evE vs e] := by
  have hf := he.fit hg
  have hr : ∀ x ∈ [e, g, e], rightE x = true := fun x hx => (okE_right (hf.ok x hx)).1
  have hok := makeL_ok (inp := 4) (fun x hx => makeP_ok (by decide) x (hr x hx)) hf.most []
  have hv := fun (vs : List Bool) (h4 : vs.length = 4) => makeL_val (vs := vs) (by decide) (by rw [h4]; rfl) hr hf.most (fun x hx => makeP_val (by decide) (by rw [h4]; rfl) x (hr x hx)) [] gates_nil
  have hin := hf.inner
  have h3 : (makeP 4 e (makeP 4 g (makeP 4 e []).2).2) = ((makeP 4 e []).1, (makeP 4 g (makeP 4 e []).2).2) := makeP_again 4 e _ _ (makeP_pre 4 g _)
  have hm : makeL 4 [e, g, e] [] = ([(makeP 4 e []).1, (makeP 4 g (makeP 4 e []).2).1, (makeP 4 e []).1], (makeP 4 g (makeP 4 e []).2).2) := by simp only [makeL, h3]
  rw [hm] at hok hv
  dsimp only at hok hv
  refine ⟨_, _, _, hm, (hv [false, false, false, false] rfl).1, ?_, hok.1, fun vs h4 => (hv vs h4).2⟩
  have := hok.2.2.1
  simp only [List.length_nil] at this
  omega
end Go.Proofs.Ytlidjjjpjndneaa.Lg
