/- Formulas in order, plain: rows of literals, each once. No program is in sight here. -/
import Derived.Test.YtlojopaebdnacaaOj
import Derived.Shelf.SlSortCmp.Whole1
import Derived.Shelf.SlGeneric
import Derived.Ground.SlsfProg
set_option linter.unusedSimpArgs false
set_option linter.unusedVariables false
namespace Go.Proofs.Ytlojopaebdnacaa.Lg
open Go
/-- A clause in order. -/
def ordP (c : List Int) : List Int := c.foldl insR []
theorem ordP_ord : ∀ (n : Nat) (c : List Int), n ≤ c.length → OrdOf (c.take n) ((c.take n).foldl insR []) := by
  intro n
  induction n with
  | zero => intro c _; rw [List.take_zero]; exact ⟨List.Pairwise.nil, fun x => Iff.rfl⟩
  | succ n ih =>
    intro c h
    rw [take_succ 0 (by omega), List.foldl_append]
    exact insR_ord (ih c (by omega))
theorem ordP_of (c : List Int) : OrdOf c (ordP c) := by have := ordP_ord c.length c (Nat.le_refl _); rwa [List.take_length] at this
theorem OrdOf.eq {c ys : List Int} (h : OrdOf c ys) : ys = ordP c := h.same (ordP_of c)
theorem ordP_len (c : List Int) : (ordP c).length ≤ c.length := strict_len (ordP_of c).1 fun x hx => ((ordP_of c).2 x).1 hx
theorem ordP_same {c : List Int} (h : strictP c) : ordP c = c := (OrdOf.eq (c := c) (ys := c) ⟨h, fun x => Iff.rfl⟩).symm
/-- Rows, as the program compares them. -/
def rowC : List Int → List Int → Int
  | [], [] => 0
  | [], _ :: _ => -1
  | _ :: _, [] => 1
  | x :: r, y :: t => if rankP x = rankP y then rowC r t else rankP x - rankP y
theorem rowC_self : ∀ a : List Int, rowC a a = 0 := by
  intro a
  induction a with
  | nil => rfl
  | cons x r ih => simp [rowC, ih]
theorem rowC_eq : ∀ {a b : List Int}, rowC a b = 0 → a = b := by
  intro a
  induction a with
  | nil =>
    intro b h
    cases b with
    | nil => rfl
    | cons y t => exact absurd h (by simp [rowC])
  | cons x r ih =>
    intro b h
    cases b with
    | nil => exact absurd h (by simp [rowC])
    | cons y t =>
      simp only [rowC] at h
      split at h
      · rename_i e
        rw [rankP_inj e, ih h]
      · omega
theorem rowC_anti : ∀ a b : List Int, (rowC a b < 0 ↔ 0 < rowC b a) := by
  intro a
  induction a with
  | nil =>
    intro b
    cases b with
    | nil => simp [rowC]
    | cons y t => simp [rowC]
  | cons x r ih =>
    intro b
    cases b with
    | nil => simp [rowC]
    | cons y t =>
      simp only [rowC]
      by_cases e : rankP x = rankP y
      · rw [if_pos e, if_pos e.symm]; exact ih t
      · rw [if_neg e, if_neg (fun h => e h.symm)]; omega
theorem rowC_trans : ∀ {a b c : List Int}, rowC a b < 0 → rowC b c < 0 → rowC a c < 0 := by
  intro a
  induction a with
  | nil =>
    intro b c h1 h2
    cases c with
    | nil => cases b <;> simp [rowC] at h1 h2
    | cons z u => simp [rowC]
  | cons x r ih =>
    intro b c h1 h2
    cases b with
    | nil => simp [rowC] at h1
    | cons y t =>
      cases c with
      | nil => simp [rowC] at h2
      | cons z u =>
        simp only [rowC] at h1 h2 ⊢
        by_cases e1 : rankP x = rankP y
        · rw [if_pos e1] at h1
          by_cases e2 : rankP y = rankP z
          · rw [if_pos e2] at h2
            rw [if_pos (e1.trans e2)]; exact ih h1 h2
          · rw [if_neg e2] at h2
            rw [if_neg (fun h => e2 (e1.symm.trans h))]; omega
        · rw [if_neg e1] at h1
          by_cases e2 : rankP y = rankP z
          · rw [if_pos e2] at h2
            rw [if_neg (fun h => e1 (h.trans e2.symm))]; omega
          · rw [if_neg e2] at h2
            rw [if_neg (by omega)]; omega
/-- Rows in order, each once. -/
def strictR (ys : List (List Int)) : Prop := ys.Pairwise fun a b => rowC a b < 0
theorem strictR_ext : ∀ {ys zs : List (List Int)}, strictR ys → strictR zs → (∀ x, x ∈ ys ↔ x ∈ zs) → ys = zs := by
  intro ys
  induction ys with
  | nil =>
    intro zs _ _ h
    cases zs with
    | nil => rfl
    | cons z t => exact absurd ((h z).2 (by simp)) (by simp)
  | cons y r ih =>
    intro zs h1 h2 h
    cases zs with
    | nil => exact absurd ((h y).1 (by simp)) (by simp)
    | cons z t =>
      have a1 := List.pairwise_cons.1 h1
      have a2 := List.pairwise_cons.1 h2
      have hyz : y = z := by
        rcases List.mem_cons.1 ((h y).1 (by simp)) with e | hy
        · exact e
        · rcases List.mem_cons.1 ((h z).2 (by simp)) with e | hz
          · exact e.symm
          · have b1 := a1.1 z hz
            have b2 := a2.1 y hy
            have := (rowC_anti y z).1 b1
            omega
      subst hyz
      have hne : ∀ {l : List (List Int)}, (∀ x ∈ l, rowC y x < 0) → y ∉ l := fun hl hm => by have := hl y hm; rw [rowC_self] at this; omega
      rw [ih a1.2 a2.2 fun x => ?_]
      constructor
      · intro hx
        rcases List.mem_cons.1 ((h x).1 (by simp [hx])) with e | hx2
        · subst e; exact absurd hx (hne a1.1)
        · exact hx2
      · intro hx
        rcases List.mem_cons.1 ((h x).2 (by simp [hx])) with e | hx2
        · subst e; exact absurd hx (hne a2.1)
        · exact hx2
/-- The rows of a formula, in order and without those that are always true. -/
def rowsP (cls : List (List Int)) : List (List Int) := (cls.map ordP).filter fun c => !tautP c
def NormOf (cls ys : List (List Int)) : Prop := strictR ys ∧ ∀ r, r ∈ ys ↔ r ∈ rowsP cls
theorem NormOf.same {cls ys zs : List (List Int)} (h : NormOf cls ys) (h' : NormOf cls zs) : ys = zs := strictR_ext h.1 h'.1 fun x => (h.2 x).trans (h'.2 x).symm
theorem strictR_len {ys : List (List Int)} : ∀ {xs : List (List Int)}, strictR ys → (∀ x, x ∈ ys → x ∈ xs) → ys.length ≤ xs.length := by
  induction ys with
  | nil => intro xs _ _; simp
  | cons y r ih =>
    intro xs h hm
    have a1 := List.pairwise_cons.1 h
    have hy := hm y (by simp)
    have := ih (xs := xs.erase y) a1.2 fun x hx => by
      have hne : x ≠ y := fun e => by subst e; have := a1.1 x hx; rw [rowC_self] at this; omega
      exact (List.mem_erase_of_ne hne).2 (hm x (by simp [hx]))
    rw [List.length_erase_of_mem hy] at this
    have := List.length_pos_of_mem hy
    simp only [List.length_cons]; omega
theorem rowsP_len (cls : List (List Int)) : (rowsP cls).length ≤ cls.length := by
  unfold rowsP
  have := List.length_filter_le (fun c => !tautP c) (cls.map ordP)
  rwa [List.length_map] at this
theorem NormOf.len {cls ys : List (List Int)} (h : NormOf cls ys) : ys.length ≤ cls.length := Nat.le_trans (strictR_len h.1 fun x hx => (h.2 x).1 hx) (rowsP_len cls)
theorem rowsP_mem {cls : List (List Int)} {r : List Int} : r ∈ rowsP cls ↔ ∃ c ∈ cls, ordP c = r ∧ tautP r = false := by
  unfold rowsP
  simp only [List.mem_filter, List.mem_map, Bool.not_eq_true']
  constructor
  · rintro ⟨⟨c, hc, rfl⟩, h⟩; exact ⟨c, hc, rfl, h⟩
  · rintro ⟨c, hc, rfl, h⟩; exact ⟨⟨c, hc, rfl⟩, h⟩
/-- In order again it is itself. -/
theorem NormOf.again {cls ys zs : List (List Int)} (h : NormOf cls ys) (h' : NormOf ys zs) : zs = ys := by
  refine strictR_ext h'.1 h.1 fun x => ?_
  rw [h'.2 x, rowsP_mem]
  have key : ∀ r ∈ ys, ordP r = r ∧ tautP r = false := fun r hr => by
    obtain ⟨c, _, e, ht⟩ := rowsP_mem.1 ((h.2 r).1 hr)
    refine ⟨ordP_same ?_, ht⟩
    rw [← e]; exact (ordP_of c).1
  constructor
  · rintro ⟨c, hc, e, _⟩
    rw [(key c hc).1] at e
    rw [← e]; exact hc
  · intro hx
    exact ⟨x, hx, (key x hx).1, (key x hx).2⟩
/-- It has the values that it had. -/
theorem NormOf.eval {cls ys : List (List Int)} {L : Int → Bool} (h : NormOf cls ys) (hL : ∀ c ∈ cls, ∀ x ∈ c, L (-x) = !L x) : ys.all (fun c => c.any L) = cls.all fun c => c.any L := by
  have hany : ∀ c, (ordP c).any L = c.any L := fun c => by
    rw [Bool.eq_iff_iff, List.any_eq_true, List.any_eq_true]
    exact ⟨fun ⟨x, h1, h2⟩ => ⟨x, ((ordP_of c).2 x).1 h1, h2⟩, fun ⟨x, h1, h2⟩ => ⟨x, ((ordP_of c).2 x).2 h1, h2⟩⟩
  rw [Bool.eq_iff_iff, List.all_eq_true, List.all_eq_true]
  constructor
  · intro hy c hc
    cases ht : tautP (ordP c) with
    | false =>
      have := hy (ordP c) ((h.2 _).2 (rowsP_mem.2 ⟨c, hc, rfl, ht⟩))
      rwa [hany] at this
    | true =>
      unfold tautP at ht
      rw [List.any_eq_true] at ht
      obtain ⟨x, hx, hn⟩ := ht
      have hx2 := ((ordP_of c).2 x).1 hx
      have hn2 := ((ordP_of c).2 (-x)).1 (List.contains_iff_mem.1 hn)
      rw [List.any_eq_true]
      cases e : L x with
      | true => exact ⟨x, hx2, e⟩
      | false => exact ⟨-x, hn2, by rw [hL c hc x hx2, e]; rfl⟩
  · intro hc r hr
    obtain ⟨c, hcm, e, _⟩ := rowsP_mem.1 ((h.2 r).1 hr)
    rw [← e, hany]; exact hc c hcm
/-! Sorted rows, neighbours once -/
def upToR (xs : List (List Int)) (n : Nat) : Prop := ∀ p q, p < q → q < n → ¬ rowC (xs.getD q []) (xs.getD p []) < 0
def cmpToR (xs : List (List Int)) : Nat → List (List Int)
  | 0 => []
  | 1 => [xs.getD 0 []]
  | i + 2 => cmpToR xs (i + 1) ++ if xs.getD (i + 1) [] = xs.getD i [] then [] else [xs.getD (i + 1) []]
theorem cmpToR_mem {xs : List (List Int)} : ∀ {i : Nat}, i ≤ xs.length → ∀ x, x ∈ cmpToR xs i ↔ x ∈ xs.take i := by
  intro i
  induction i with
  | zero => intro _ x; simp [cmpToR]
  | succ i ih =>
    intro hi x
    cases i with
    | zero => rw [take_succ [] (by omega)]; simp [cmpToR]
    | succ i =>
      have h1 := ih (by omega) x
      rw [take_succ [] (by omega)]
      simp only [cmpToR, List.mem_append, h1]
      by_cases e : xs.getD (i + 1) [] = xs.getD i []
      · rw [if_pos e]
        simp only [List.not_mem_nil, or_false, List.mem_singleton]
        constructor
        · exact .inl
        · rintro (h | rfl)
          · exact h
          · rw [e, take_succ [] (by omega)]; simp
      · rw [if_neg e]
theorem cmpToR_strict {xs : List (List Int)} (hs : upToR xs xs.length) : ∀ {i : Nat}, i ≤ xs.length → strictR (cmpToR xs i) := by
  intro i
  induction i with
  | zero => intro _; exact List.Pairwise.nil
  | succ i ih =>
    intro hi
    cases i with
    | zero => exact List.pairwise_singleton _ _
    | succ i =>
      simp only [cmpToR]
      by_cases e : xs.getD (i + 1) [] = xs.getD i []
      · rw [if_pos e, List.append_nil]; exact ih (by omega)
      · rw [if_neg e]
        refine List.pairwise_append.2 ⟨ih (by omega), List.pairwise_singleton _ _, fun a ha b hb => ?_⟩
        rw [List.mem_singleton.1 hb]
        rw [cmpToR_mem (by omega)] at ha
        have key : ∀ p, p ≤ i → rowC (xs.getD p []) (xs.getD (i + 1) []) < 0 := fun p hp => by
          have h1 := hs p (i + 1) (by omega) (by omega)
          have h2 := rowC_anti (xs.getD (i + 1) []) (xs.getD p [])
          have h3 := rowC_anti (xs.getD p []) (xs.getD (i + 1) [])
          by_cases h0 : rowC (xs.getD p []) (xs.getD (i + 1) []) = 0
          · exfalso
            have e1 := rowC_eq h0
            by_cases hpi : p = i
            · subst hpi; exact e e1.symm
            · have h4 := hs p i (by omega) (by omega)
              have h5 := hs i (i + 1) (by omega) (by omega)
              rw [e1] at h4
              have h6 := rowC_anti (xs.getD i []) (xs.getD (i + 1) [])
              have h7 := rowC_anti (xs.getD (i + 1) []) (xs.getD i [])
              by_cases h8 : rowC (xs.getD i []) (xs.getD (i + 1) []) = 0
              · exact e (rowC_eq h8).symm
              · omega
          · omega
        obtain ⟨p, hp, rfl⟩ := List.getElem_of_mem ha
        rw [List.length_take] at hp
        have := key p (by omega)
        have e3 : xs.getD p [] = (xs.take (i + 1))[p] := by
          have : p < xs.length := by omega
          simp [List.getD, this]
        rw [e3] at this; exact this
theorem norm_compact {cls xs : List (List Int)} (hs : upToR xs xs.length) (hm : ∀ x, x ∈ xs ↔ x ∈ rowsP cls) : NormOf cls (cmpToR xs xs.length) :=
  ⟨cmpToR_strict hs (Nat.le_refl _), fun x => by rw [cmpToR_mem (Nat.le_refl _), List.take_length]; exact hm x⟩
/-! A row is put where it belongs -/
def insKN (c : List Int) : List (List Int) → Nat
  | [] => 0
  | d :: r => if rowC d c < 0 then insKN c r + 1 else 0
def insN (ys : List (List Int)) (c : List Int) : List (List Int) := if insKN c ys < ys.length ∧ ys.getD (insKN c ys) [] = c then ys else ys.take (insKN c ys) ++ [c] ++ ys.drop (insKN c ys)
theorem insKN_le (c : List Int) : ∀ ys : List (List Int), insKN c ys ≤ ys.length := by
  intro ys
  induction ys with
  | nil => simp [insKN]
  | cons d r ih => simp only [insKN, List.length_cons]; split <;> omega
theorem insKN_before (c : List Int) : ∀ {ys : List (List Int)} {i : Nat}, i < insKN c ys → rowC (ys.getD i []) c < 0 := by
  intro ys
  induction ys with
  | nil => intro i h; simp [insKN] at h
  | cons d r ih =>
    intro i h
    simp only [insKN] at h
    split at h
    · cases i with
      | zero => assumption
      | succ i => exact ih (by omega)
    · omega
theorem insKN_stop (c : List Int) : ∀ {ys : List (List Int)}, insKN c ys < ys.length → ¬ rowC (ys.getD (insKN c ys) []) c < 0 := by
  intro ys
  induction ys with
  | nil => intro h; simp at h
  | cons d r ih =>
    intro h
    simp only [insKN] at h ⊢
    split at h
    · rename_i h1
      rw [if_pos h1]
      exact ih (by simpa using h)
    · rename_i h1
      rw [if_neg h1]; exact h1
theorem insN_strict {ys : List (List Int)} {c : List Int} (h : strictR ys) : strictR (insN ys c) ∧ ∀ x, x ∈ insN ys c ↔ x ∈ ys ∨ x = c := by
  unfold insN
  have hk := insKN_le c ys
  have hb := fun {i} => insKN_before c (ys := ys) (i := i)
  have hst := insKN_stop c (ys := ys)
  generalize insKN c ys = k at *
  by_cases h1 : k < ys.length ∧ ys.getD k [] = c
  · rw [if_pos h1]
    refine ⟨h, fun x => ⟨.inl, ?_⟩⟩
    rintro (h2 | rfl)
    · exact h2
    · rw [← h1.2]; exact getD_mem [] h1.1
  · rw [if_neg h1]
    have hlow : ∀ a ∈ ys.take k, rowC a c < 0 := fun a ha => by
      obtain ⟨p, hp, rfl⟩ := List.getElem_of_mem ha
      rw [List.length_take] at hp
      have := hb (i := p) (by omega)
      have e3 : ys.getD p [] = (ys.take k)[p] := by
        have : p < ys.length := by omega
        simp [List.getD, this]
      rw [e3] at this; exact this
    have hhigh : ∀ a ∈ ys.drop k, rowC c a < 0 := fun a ha => by
      have hlt : k < ys.length := by
        rcases Nat.lt_or_ge k ys.length with h2 | h2
        · exact h2
        · rw [List.drop_of_length_le h2] at ha; cases ha
      have hs := hst hlt
      have hfirst : rowC c (ys.getD k []) < 0 := by
        have a1 := rowC_anti c (ys.getD k [])
        by_cases h0 : rowC (ys.getD k []) c = 0
        · exact absurd ⟨hlt, rowC_eq h0⟩ h1
        · omega
      rw [drop_cons [] hlt] at ha
      have hp : strictR (ys.drop k) := h.sublist (List.drop_sublist _ _)
      rw [drop_cons [] hlt] at hp
      rcases List.mem_cons.1 ha with rfl | ha
      · exact hfirst
      · exact rowC_trans hfirst ((List.pairwise_cons.1 hp).1 a ha)
    refine ⟨?_, fun x => ?_⟩
    · rw [List.append_assoc]
      refine List.pairwise_append.2 ⟨h.sublist (List.take_sublist _ _), List.pairwise_cons.2 ⟨hhigh, h.sublist (List.drop_sublist _ _)⟩, fun a ha b hb2 => ?_⟩
      rcases List.mem_cons.1 hb2 with rfl | hb2
      · exact hlow a ha
      · exact rowC_trans (hlow a ha) (hhigh b hb2)
    · have := List.take_append_drop k ys
      constructor
      · intro hx
        simp only [List.mem_append, List.mem_singleton] at hx
        rcases hx with (hx | hx) | hx
        · exact .inl (List.mem_of_mem_take hx)
        · exact .inr hx
        · exact .inl (List.mem_of_mem_drop hx)
      · rintro (hx | rfl)
        · rw [← this] at hx
          rcases List.mem_append.1 hx with hx | hx
          · simp [hx]
          · simp [hx]
        · simp
end Go.Proofs.Ytlojopaebdnacaa.Lg
/- Rows compared; the program's slices.SortFunc of rows, out of the kit's contract. -/
set_option linter.unusedSimpArgs false
set_option linter.unusedVariables false
namespace Go.Proofs
open Go.Shelf
def Try.sortRow_ren : Go.Shelf.Ren := ⟨fun | 6 => 77 | 15 => 117 | 14 => 116 | 28 => 137 | 29 => 138 | 20 => 129 | 21 => 130 | 22 => 131 | 23 => 132 | 24 => 133 | 25 => 134 | 26 => 135 | 27 => 136 | 46 => 148 | 47 => 149 | 48 => 150 | 49 => 151 | 50 => 152 | 57 => 156 | n => n, fun | 22 => 23 | 24 => 27 | 25 => 88 | 3 => 3 | 39 => 31 | 0 => 0 | 53 => 136 | 55 => 138 | 4 => 4 | 46 => 130 | 45 => 129 | 50 => 110 | 5 => 5 | 9 => 9 | 66 => 145 | 70 => 149 | 76 => 153 | 77 => 38 | n => n, fun | n => n⟩
theorem Try.sortRow : Go.Proofs.SlLaysF.n6 Try.prog Try.sortRow_ren := {
  mixed := by kernel_rfl
  f6 := ⟨Try.f77.name, by decide, Try.func77.trans (congrArg some (by kernel_rfl))⟩
  f14 := ⟨Try.f116.name, by decide, Try.func116.trans (congrArg some (by kernel_rfl))⟩
  f15 := Try.func117.trans (congrArg some (by kernel_rfl))
  f20 := ⟨Try.f129.name, by decide, Try.func129.trans (congrArg some (by kernel_rfl))⟩
  f21 := ⟨Try.f130.name, by decide, Try.func130.trans (congrArg some (by kernel_rfl))⟩
  f22 := ⟨Try.f131.name, by decide, Try.func131.trans (congrArg some (by kernel_rfl))⟩
  f23 := ⟨Try.f132.name, by decide, Try.func132.trans (congrArg some (by kernel_rfl))⟩
  f24 := ⟨Try.f133.name, by decide, Try.func133.trans (congrArg some (by kernel_rfl))⟩
  f25 := ⟨Try.f134.name, by decide, Try.func134.trans (congrArg some (by kernel_rfl))⟩
  f26 := ⟨Try.f135.name, by decide, Try.func135.trans (congrArg some (by kernel_rfl))⟩
  f27 := ⟨Try.f136.name, by decide, Try.func136.trans (congrArg some (by kernel_rfl))⟩
  f28 := Try.func137.trans (congrArg some (by kernel_rfl))
  f29 := Try.func138.trans (congrArg some (by kernel_rfl))
  f46 := ⟨Try.f148.name, by decide, Try.func148.trans (congrArg some (by kernel_rfl))⟩
  f47 := Try.func149.trans (congrArg some (by kernel_rfl))
  f48 := Try.func150.trans (congrArg some (by kernel_rfl))
  f49 := ⟨Try.f151.name, by decide, Try.func151.trans (congrArg some (by kernel_rfl))⟩
  f50 := ⟨Try.f152.name, by decide, Try.func152.trans (congrArg some (by kernel_rfl))⟩
  f57 := ⟨Try.f156.name, by decide, Try.func156.trans (congrArg some (by kernel_rfl))⟩
  t0 := Try.underlying0
  a0 := Try.isAgg0
  z0 := Try.sizeOf0
  v0 := Try.zeroValue0
  t3 := Try.underlying3
  a3 := Try.isAgg3
  z3 := Try.sizeOf3
  v3 := Try.zeroValue3
  t4 := Try.underlying4
  a4 := Try.isAgg4
  z4 := Try.sizeOf4
  v4 := Try.zeroValue4
  t5 := Try.underlying5
  a5 := Try.isAgg5
  z5 := Try.sizeOf5
  v5 := Try.zeroValue5
  t9 := Try.underlying9
  a9 := Try.isAgg9
  z9 := Try.sizeOf9
  v9 := Try.zeroValue9
  t22 := Try.underlying23
  a22 := Try.isAgg23
  z22 := Try.sizeOf23
  v22 := Try.zeroValue23
  a24 := Try.isAgg27
  z24 := Try.sizeOf27
  t25 := Try.underlying88
  a25 := Try.isAgg88
  z25 := Try.sizeOf88
  v25 := Try.zeroValue88
  t39 := Try.underlying31
  a39 := Try.isAgg31
  z39 := Try.sizeOf31
  v39 := Try.zeroValue31
  t45 := Try.underlying129
  a45 := Try.isAgg129
  z45 := Try.sizeOf129
  v45 := Try.zeroValue129
  t46 := Try.underlying130
  a46 := Try.isAgg130
  z46 := Try.sizeOf130
  v46 := Try.zeroValue130
  t50 := Try.underlying110
  a50 := Try.isAgg110
  z50 := Try.sizeOf110
  v50 := Try.zeroValue110
  t53 := Try.underlying136
  a53 := Try.isAgg136
  z53 := Try.sizeOf136
  v53 := Try.zeroValue136
  t55 := Try.underlying138
  a55 := Try.isAgg138
  z55 := Try.sizeOf138
  v55 := Try.zeroValue138
  t66 := Try.underlying145
  a66 := Try.isAgg145
  z66 := Try.sizeOf145
  v66 := Try.zeroValue145
  t70 := Try.underlying149
  a70 := Try.isAgg149
  z70 := Try.sizeOf149
  v70 := Try.zeroValue149
  t76 := Try.underlying153
  a76 := Try.isAgg153
  z76 := Try.sizeOf153
  v76 := Try.zeroValue153
  t77 := Try.underlying38
  a77 := Try.isAgg38
  z77 := Try.sizeOf38
  v77 := Try.zeroValue38 }
end Go.Proofs
namespace Go.Proofs.Ytlojopaebdnacaa.Lg
open Go Go.Shelf Go.Sort
section
attribute [local irreducible] SRun DS DRun
variable {Γ : St} {σ σ0 : St}
theorem implRank_ok {x : Int} (hx : -1000000 ≤ x ∧ x ≤ 1000000) : Ret Try.prog Γ 128 [.int .i64 x] σ (.int .i64 (rankP x)) σ := by
  refine ret_of c128_ok rfl ?_
  simp (disch := omega) only [c128, go_sem]
  first | refine iteW_dec (fun h => ?_) (fun h => ?_) | refine iteW_of (fun h => ?_) (fun h => ?_)
  · simp (disch := omega) only [go_sem]
    refine W_retR c128_ok rfl ⟨?_, rfl⟩
    simp only [look, ev, V.bool.injEq, V.int.injEq, V.str.injEq, V.tup.injEq, V.agg.injEq, V.isl.injEq, List.cons.injEq, true_and, and_true, Nat.reduceEqDiff, Nat.reduceAdd, Nat.reduceSub, Nat.reduceMul, Nat.reducePow, Nat.reduceDiv, Nat.reduceMod, Int.reduceToNat, Nat.reduceLeDiff, Nat.reduceLT, Int.reduceEq, Int.reduceLT, Int.reduceLE, Int.reduceGT, Int.reduceGE, Int.reduceNeg, Int.reduceSub, Int.reduceAdd, Int.reduceMul, Int.reducePow, ne_eq, reduceCtorEq, ↓reduceIte]
    unfold rankP; rw [if_pos h]
  · simp (disch := omega) only [go_sem]
    refine W_retR c128_ok rfl ⟨?_, rfl⟩
    simp only [look, ev, V.bool.injEq, V.int.injEq, V.str.injEq, V.tup.injEq, V.agg.injEq, V.isl.injEq, List.cons.injEq, true_and, and_true, Nat.reduceEqDiff, Nat.reduceAdd, Nat.reduceSub, Nat.reduceMul, Nat.reducePow, Nat.reduceDiv, Nat.reduceMod, Int.reduceToNat, Nat.reduceLeDiff, Nat.reduceLT, Int.reduceEq, Int.reduceLT, Int.reduceLE, Int.reduceGT, Int.reduceGE, Int.reduceNeg, Int.reduceSub, Int.reduceAdd, Int.reduceMul, Int.reducePow, ne_eq, reduceCtorEq, ↓reduceIte]
    unfold rankP; rw [if_neg h]
theorem rankP_in {x : Int} (hx : -1000000 ≤ x ∧ x ≤ 1000000) : 0 ≤ rankP x ∧ rankP x ≤ 2000001 := by unfold rankP; split <;> omega
theorem compareLits_ok {x y : Int} (hx : -1000000 ≤ x ∧ x ≤ 1000000) (hy : -1000000 ≤ y ∧ y ≤ 1000000) : Ret Try.prog Γ 109 [.int .i64 x, .int .i64 y] σ (.int .i64 (rankP x - rankP y)) σ := by
  have r1 := rankP_in hx
  have r2 := rankP_in hy
  refine ret_of c109_ok rfl ?_
  simp (disch := omega) only [c109, go_sem]
  refine SRun.callR (implRank_ok hx) ⟨[], rfl, rfl⟩ rfl ?_
  simp (disch := omega) only [go_sem]
  refine SRun.callR (implRank_ok hy) ⟨[], rfl, rfl⟩ rfl ?_
  simp (disch := omega) only [go_sem]
  refine W_retR c109_ok rfl ⟨?_, rfl⟩
  rfl
theorem compareFunc_ok {e1 e2 : Bool} {a b : List Int} (hla : a.length ≤ 1000000) (hlb : b.length ≤ 1000000) (ha : smallL a) (hb : smallL b) : Ret Try.prog Γ 118 [.isl e1 1 (ints a), .isl e2 1 (ints b), .fn 109 []] σ (.int .i64 (rowC a b)) σ := by
  refine ret_of c118_ok rfl ?_
  simp (disch := omega) only [c118, go_sem]
  refine W_loopC (fun i : Nat => i ≤ a.length ∧ i ≤ b.length ∧ rowC (a.drop i) (b.drop i) = rowC a b) (fun i => [(0, .isl e1 1 (ints a)), (1, .isl e2 1 (ints b)), (2, .fn 109 []), (11, .isl e1 1 (ints a)), (12, .int .i64 a.length), (13, .int .i64 (i : Nat))]) (fun _ => σ) (fun i => a.length - i) 0 ⟨by omega, by omega, rfl⟩ (by simp (disch := omega) only [subT, Int.natCast_add, Int.cast_ofNat_Int, go_sem] <;> (repeat' apply And.intro) <;> first | rfl | (congr 1; omega) | assumption) rfl ?_
  rintro i ⟨hi, hib, hr⟩ ih
  simp (disch := omega) only [go_sem]
  first | refine iteW_dec (fun h1 => ?_) (fun h1 => ?_) | refine iteW_of (fun h1 => ?_) (fun h1 => ?_)
  · have hlt : i < a.length := by omega
    have hax := ha _ (getD_mem 0 hlt)
    rw [drop_cons 0 hlt] at hr
    simp (disch := omega) only [go_sem]
    first | refine iteW_dec (fun h2 => ?_) (fun h2 => ?_) | refine iteW_of (fun h2 => ?_) (fun h2 => ?_)
    · have hbn : b.drop i = [] := List.drop_of_length_le (by omega)
      rw [hbn] at hr
      simp (disch := omega) only [go_sem]
      refine W_retR c118_ok rfl ⟨?_, rfl⟩
      simp only [look, ev, V.bool.injEq, V.int.injEq, V.str.injEq, V.tup.injEq, V.agg.injEq, V.isl.injEq, List.cons.injEq, true_and, and_true, Nat.reduceEqDiff, Nat.reduceAdd, Nat.reduceSub, Nat.reduceMul, Nat.reducePow, Nat.reduceDiv, Nat.reduceMod, Int.reduceToNat, Nat.reduceLeDiff, Nat.reduceLT, Int.reduceEq, Int.reduceLT, Int.reduceLE, Int.reduceGT, Int.reduceGE, Int.reduceNeg, Int.reduceSub, Int.reduceAdd, Int.reduceMul, Int.reducePow, ne_eq, reduceCtorEq, ↓reduceIte]
      exact hr
    · have hltb : i < b.length := by omega
      have hbx := hb _ (getD_mem 0 hltb)
      have r1 := rankP_in hax
      have r2 := rankP_in hbx
      rw [drop_cons 0 hltb] at hr
      simp only [rowC] at hr
      simp (disch := omega) only [go_sem]
      refine SRun.callR (compareLits_ok hax hbx) ⟨[], rfl, rfl⟩ rfl ?_
      by_cases h3 : rankP (a.getD i 0) = rankP (b.getD i 0)
      · rw [if_pos h3] at hr
        have d1 : (decide ¬ rankP (a.getD i 0) - rankP (b.getD i 0) = 0) = false := decide_eq_false (fun h => h (by omega))
        simp (disch := omega) only [d1, go_sem]
        exact ih (i + 1) _ _ ⟨by omega, by omega, hr⟩ (by omega) (by simp (disch := omega) only [subT, Int.natCast_add, Int.cast_ofNat_Int, go_sem] <;> (repeat' apply And.intro) <;> first | rfl | (congr 1; omega) | assumption) rfl
      · rw [if_neg h3] at hr
        have d1 : (decide ¬ rankP (a.getD i 0) - rankP (b.getD i 0) = 0) = true := decide_eq_true (by omega)
        simp (disch := omega) only [d1, go_sem]
        refine W_retR c118_ok rfl ⟨?_, rfl⟩
        simp only [look, ev, V.bool.injEq, V.int.injEq, V.str.injEq, V.tup.injEq, V.agg.injEq, V.isl.injEq, List.cons.injEq, true_and, and_true, Nat.reduceEqDiff, Nat.reduceAdd, Nat.reduceSub, Nat.reduceMul, Nat.reducePow, Nat.reduceDiv, Nat.reduceMod, Int.reduceToNat, Nat.reduceLeDiff, Nat.reduceLT, Int.reduceEq, Int.reduceLT, Int.reduceLE, Int.reduceGT, Int.reduceGE, Int.reduceNeg, Int.reduceSub, Int.reduceAdd, Int.reduceMul, Int.reducePow, ne_eq, reduceCtorEq, ↓reduceIte]
        exact hr
  · have hil : i = a.length := by omega
    subst hil
    rw [List.drop_length] at hr
    simp (disch := omega) only [go_sem]
    first | refine iteW_dec (fun h2 => ?_) (fun h2 => ?_) | refine iteW_of (fun h2 => ?_) (fun h2 => ?_)
    · simp (disch := omega) only [go_sem]
      refine W_retR c118_ok rfl ⟨?_, rfl⟩
      simp only [look, ev, V.bool.injEq, V.int.injEq, V.str.injEq, V.tup.injEq, V.agg.injEq, V.isl.injEq, List.cons.injEq, true_and, and_true, Nat.reduceEqDiff, Nat.reduceAdd, Nat.reduceSub, Nat.reduceMul, Nat.reducePow, Nat.reduceDiv, Nat.reduceMod, Int.reduceToNat, Nat.reduceLeDiff, Nat.reduceLT, Int.reduceEq, Int.reduceLT, Int.reduceLE, Int.reduceGT, Int.reduceGE, Int.reduceNeg, Int.reduceSub, Int.reduceAdd, Int.reduceMul, Int.reducePow, ne_eq, reduceCtorEq, ↓reduceIte]
      rw [drop_cons 0 (by omega)] at hr
      exact hr
    · simp (disch := omega) only [go_sem]
      refine W_retR c118_ok rfl ⟨?_, rfl⟩
      simp only [look, ev, V.bool.injEq, V.int.injEq, V.str.injEq, V.tup.injEq, V.agg.injEq, V.isl.injEq, List.cons.injEq, true_and, and_true, Nat.reduceEqDiff, Nat.reduceAdd, Nat.reduceSub, Nat.reduceMul, Nat.reducePow, Nat.reduceDiv, Nat.reduceMod, Int.reduceToNat, Nat.reduceLeDiff, Nat.reduceLT, Int.reduceEq, Int.reduceLT, Int.reduceLE, Int.reduceGT, Int.reduceGE, Int.reduceNeg, Int.reduceSub, Int.reduceAdd, Int.reduceMul, Int.reducePow, ne_eq, reduceCtorEq, ↓reduceIte]
      rw [List.drop_of_length_le (by omega)] at hr
      exact hr
theorem compareClauses_ok {e1 e2 : Bool} {a b : List Int} (hla : a.length ≤ 1000000) (hlb : b.length ≤ 1000000) (ha : smallL a) (hb : smallL b) : Ret Try.prog Γ 78 [.isl e1 1 (ints a), .isl e2 1 (ints b)] σ (.int .i64 (rowC a b)) σ := by
  refine ret_of c78_ok rfl ?_
  simp (disch := omega) only [c78, go_sem]
  refine SRun.callR (compareFunc_ok hla hlb ha hb) ⟨[], rfl, rfl⟩ rfl ?_
  simp (disch := omega) only [go_sem]
  refine W_retR c78_ok rfl ⟨?_, rfl⟩
  rfl
end
/-! The kit's sort asks of the comparing function -/
def Fine (c : List Int) : Prop := c.length ≤ 1000000 ∧ smallL c
variable {α : Type} [Inhabited α]
theorem keep_sortWorld {w : World} {O : Nat → Prop} {b m : Nat} (hO : O b) (enc : α → Value) (d : Array α) (os : Array Obj) : Keep w (sortWorld enc w b 0 m d os) O (fun _ => False) where
  size := by simp [sortWorld, Go.Sort.grow, Go.Sort.putRow, mapBlock, Go.Sort.ahead]
  same n hn ho := by
    have hne : b ≠ n := fun e => ho (e ▸ hO)
    show ((w.heap.modify b _) ++ os)[n]? = _
    rw [Array.getElem?_append_left (by simpa using hn), Array.getElem?_modify, if_neg hne]
  shape n arr e fz hn := by
    have hlt := lt_of_get hn
    by_cases hne : b = n
    · subst hne
      refine ⟨Go.Sort.putCells enc 0 d arr, fz, ?_, putCells_size _ _ _⟩
      show ((w.heap.modify b _) ++ os)[b]? = _
      rw [Array.getElem?_append_left (by simpa using hlt), Array.getElem?_modify, if_pos rfl, hn]; rfl
    · refine ⟨arr, fz, ?_, rfl⟩
      show ((w.heap.modify b _) ++ os)[n]? = _
      rw [Array.getElem?_append_left (by simpa using hlt), Array.getElem?_modify, if_neg hne]; exact hn
  own n h := h.elim
  io := ⟨rfl, rfl, rfl, Nat.le_add_right _ _⟩
theorem world_grown {W w' : World} (h : Keep W w' (fun _ => False) (fun _ => False)) : ∃ q os, w' = Go.Sort.grow (W.drewN q) os := by
  obtain ⟨q, hq⟩ : ∃ q, w'.drawn = W.drawn + q := ⟨w'.drawn - W.drawn, by have := h.io.2.2.2; omega⟩
  refine ⟨q, w'.heap.extract W.heap.size w'.heap.size, ?_⟩
  have hh : w'.heap = W.heap ++ w'.heap.extract W.heap.size w'.heap.size := by
    apply Array.ext
    · have := h.size; simp; omega
    · intro i h1 h2
      rcases Nat.lt_or_ge i W.heap.size with hlt | hge
      · have := h.same i hlt (fun h => h)
        rw [Array.getElem?_eq_getElem h1, Array.getElem?_eq_getElem hlt] at this
        rw [Array.getElem_append_left hlt]
        exact Option.some.inj this
      · rw [Array.getElem_append_right hge]
        simp; congr 1; omega
  obtain ⟨i1, i2, i3, _⟩ := h.io
  cases w' with
  | mk heap tape drawn os output =>
    cases W with
    | mk heap2 tape2 drawn2 os2 output2 =>
      simp only at i1 i2 i3 hq hh
      subst i1 i2 i3 hq
      simp only [Go.Sort.grow, World.drewN]
      rw [← hh]
end Go.Proofs.Ytlojopaebdnacaa.Lg
/- The program's slices.SortFunc of rows. -/
set_option linter.unusedSimpArgs false
set_option linter.unusedVariables false
namespace Go.Proofs.Ytlojopaebdnacaa.Lg
open Go Go.Shelf Go.Sort
/-- A row that stands in a world, and what it holds. -/
def RowA (w : World) (O : Nat → Prop) : Type := {p : Value × List Int // Rep w O (.isl false 1 (ints p.2)) p.1 ∧ Fine p.2}
def encR {w : World} {O : Nat → Prop} (x : RowA w O) : Value := x.1.1
def cfR {w : World} {O : Nat → Prop} (x y : RowA w O) : Int := rowC x.1.2 y.1.2
theorem ltR {w : World} {O : Nat → Prop} (x y : RowA w O) : ltOf cfR x y = decide (rowC x.1.2 y.1.2 < 0) := by
  unfold ltOf cfR; rfl
theorem rowC_not {a b : List Int} (h : ¬ rowC a b < 0) : a = b ∨ rowC b a < 0 := by
  by_cases h0 : rowC a b = 0
  · exact .inl (rowC_eq h0)
  · exact .inr ((rowC_anti b a).2 (by omega))
theorem swoR {w : World} {O : Nat → Prop} : SWO (ltOf (cfR (w := w) (O := O))) where
  irrefl x := by rw [ltR, rowC_self]; rfl
  trans x y z h1 h2 := by rw [ltR] at *; simp only [decide_eq_true_eq] at *; exact rowC_trans h1 h2
  ntrans x y z h1 h2 := by
    rw [ltR] at *; simp only [decide_eq_false_iff_not] at *
    intro h3
    rcases rowC_not h1 with e | h1
    · rw [e] at h3; exact h2 h3
    · rcases rowC_not h2 with e | h2
      · rw [← e] at h3
        have := (rowC_anti y.1.2 x.1.2).1 h1
        omega
      · have h4 := rowC_trans h2 h1
        have := (rowC_anti z.1.2 x.1.2).1 h4
        omega
theorem own_none : own (cup emp emp) = fun _ => False := by funext n; simp [own, cup, emp]
theorem rowsCmp {Γ : St} {w : World} {O : Nat → Prop} [Inhabited (RowA w O)] {b size : Nat} (hg : Glob Γ w O) (hb : O b) : CmpLays1 Try.prog 78 #[] (encR (w := w) (O := O)) cfR b 0 size w := by
  intro m os dk hsz x y
  have hk := keep_sortWorld (w := w) (O := O) (m := m) hb encR dk os
  generalize sortWorld encR w b 0 m dk os = W at *
  have hc := (compareClauses_ok (Γ := Γ) (σ := emp) (e1 := false) (e2 := false) x.2.2.1 y.2.2.1 x.2.2.2 y.2.2.2).2 emp W #[encR x, encR y] (disj_emp _) (fun b cs h => by simp [cup, emp] at h) (by rw [own_none]; exact hg.keep hk) ⟨rfl, fun i z hz => by
    rw [own_none]
    match i with
    | 0 => obtain rfl := Option.some.inj hz; exact x.2.1.keep hk
    | 1 => obtain rfl := Option.some.inj hz; exact y.2.1.keep hk
    | i + 2 => simp at hz⟩
  refine Calls.mono hc ?_
  rintro e w' ⟨r, v, s, rfl, ⟨rfl, rfl⟩, -, -, hv, hk2⟩
  rw [own_none] at hk2
  cases hv
  exact ⟨rfl, world_grown hk2⟩
theorem clsV_at {ys : List (List Int)} {i : Nat} {x : V} (h : (clsV ys)[i]? = some x) : x = .isl false 1 (ints (ys.getD i [])) := by
  obtain ⟨hi, rfl⟩ := List.getElem?_eq_some_iff.1 h
  have hi' : i < ys.length := by rwa [clsV_len] at hi
  simp [clsV, intsV, List.getD, hi']
theorem arr_of {β : Type} [Inhabited β] {n : Nat} (f : Fin n → β) : ∃ d : Array β, d.size = n ∧ ∀ i (h : i < n), d[i]! = f ⟨i, h⟩ := ⟨Array.ofFn f, Array.size_ofFn, fun i h => by
  rw [getElem!_pos _ _ (by simpa using h)]; simp⟩
theorem sortRows_ok {Γ σ0 : St} {xs : List (List Int)} {b cap : Nat} (h0 : 0 < xs.length) (hl : xs.length ≤ 1000000) (hx : ∀ x ∈ xs, Fine x) :
    ACalls Try.prog Γ 77 [.msl b 1 0 xs.length cap, .fn 78 []] (upd σ0 b (clsV xs)) fun r s => ∃ ys, ys.length = xs.length ∧ (∀ x, x ∈ ys ↔ x ∈ xs) ∧ upToR ys ys.length ∧ s = upd σ0 b (clsV ys) := by
  refine ⟨by kernel_rfl, fun τ w cargs hd hs hg hr => ?_⟩
  obtain rfl := args_two hr
  have hb : cup (upd σ0 b (clsV xs)) τ b = some (clsV xs) := cup_of_some (upd_same _ _ _)
  obtain ⟨arr, e, fz, g1, g2, g3, g4⟩ := hs b _ hb
  rw [clsV_len] at g3
  have hel : ∀ i : Fin xs.length, Rep w (own (cup (upd σ0 b (clsV xs)) τ)) (.isl false 1 (ints (xs.getD i [])))  (arr.getD i undef) ∧ Fine (xs.getD i []) := fun i => by
    have hi := i.2
    refine ⟨(g4 i _ ?_).2, hx _ (getD_mem [] hi)⟩
    simp [clsV, intsV, hi]
  haveI : Inhabited (RowA w (own (cup (upd σ0 b (clsV xs)) τ))) := ⟨⟨(_, _), hel ⟨0, h0⟩⟩⟩
  obtain ⟨d, hdsz, hdat⟩ : ∃ d : Array (RowA w (own (cup (upd σ0 b (clsV xs)) τ))), d.size = xs.length ∧ ∀ i, i < xs.length → (d[i]!).1 = (arr.getD i undef, xs.getD i []) :=
    by
      obtain ⟨d, h1, h2⟩ := arr_of (β := RowA w (own (cup (upd σ0 b (clsV xs)) τ))) fun i => ⟨(arr.getD i undef, xs.getD i []), hel i⟩
      exact ⟨d, h1, fun i hi => (congrArg (·.1) (h2 i hi)).trans rfl⟩
  have hob : own (cup (upd σ0 b (clsV xs)) τ) b := own_of_some hb
  have hH : Holds encR w b 0 d := fun j hj => by
    have hj2 : j < xs.length := by omega
    have hja : j < arr.size := by omega
    have hnf := g2 j hja
    rw [Nat.zero_add]
    constructor
    · simp only [World.cell?, g1, encR, hdat j hj2]
      simp [Array.getD, hja]
    · simp only [World.frozen?, g1]
      simp; omega
  have hdl0 : d.toList.map (·.1.2) = xs := by
    apply List.ext_getElem
    · simp [hdsz]
    · intro i h1 h2
      have := hdat i h2
      have h3 : i < d.size := by omega
      simp only [getElem!_pos d i h3] at this
      simp [this, List.getD, h2]
  have hK := Any.slices_SortFunc Try.sortRow encR (fun x => Rep.oneCell x.2.1 rfl) cfR swoR 78 #[] b 0 cap d w (fun args w => run_callFunc (by kernel_rfl) args w) (rowsCmp hg hob) hH (lt_of_get g1) (by omega)
  change Calls Try.prog 77 _ _ _ at hK
  rw [hdsz] at hK
  refine Calls.mono hK ?_
  rintro e w' ⟨rfl, d', n, os, hp, hso, rfl⟩
  have hdl : d'.size = xs.length := by have := hp.1; omega
  have hpl : d'.toList.Perm d.toList := by
    have := hp.2.2
    rw [← hdsz] at this
    have hdl2 : d'.size = d.size := by omega
    simp [List.take_of_length_le, hdl2] at this
    exact this
  have hml : (d'.toList.map (·.1.2)).Perm xs := by
    have := hpl.map (·.1.2)
    rwa [hdl0] at this
  have hat : ∀ {i}, i < d'.size → (d'.toList.map (·.1.2)).getD i [] = (d'[i]!).1.2 := fun {i} h => by simp [List.getD, h]
  refine ⟨.tup [], .tuple #[], upd σ0 b (clsV (d'.toList.map (·.1.2))), rfl, ⟨_, ?_, fun x => hml.mem_iff, fun p q h1 h2 => ?_, rfl⟩, row_post (enc := encR) (d := d') hd hs ?_ ?_ fun i x h => ?_⟩
  · simp [hdl]
  · have h2 : q < d'.size := by simpa using h2
    rw [hat h2, hat (by omega)]
    have := hso p q (Nat.zero_le _) h1 (by omega)
    rw [ltR] at this
    exact of_decide_eq_false this
  · rw [clsV_len, clsV_len]; simp [hdl]
  · rw [clsV_len]; exact hdl
  · have hi' : i < d'.size := by
      have := (List.getElem?_eq_some_iff.1 h).1
      rw [clsV_len] at this; simpa using this
    rw [clsV_at h, hat hi']
    exact ⟨rfl, (d'[i]!).2.1⟩
end Go.Proofs.Ytlojopaebdnacaa.Lg
