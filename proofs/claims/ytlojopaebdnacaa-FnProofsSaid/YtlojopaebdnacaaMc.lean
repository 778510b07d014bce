/- The program's functions, one by one: the least model. -/
import Derived.Test.YtlojopaebdnacaaMb
set_option linter.unusedSimpArgs false
set_option linter.unusedVariables false
namespace Go.Proofs.Ytlojopaebdnacaa.Lg
open Go
attribute [local irreducible] SRun DS DRun
variable {Γ : St} {σ σ0 : St}
theorem propGo_keeps {vars : Int} {cls : List (List Int)} (hc : ClsOK vars cls) : ∀ (f : Nat) (vals list : List Int), (vals.length : Int) = vars + 1 → tri vals → (propGo cls f vals list).2.2.length = vals.length ∧ tri (propGo cls f vals list).2.2 ∧ zeros (propGo cls f vals list).2.2 ≤ zeros vals := by
  intro f
  induction f with
  | zero => intro vals list _ ht; exact ⟨rfl, ht, Nat.le_refl _⟩
  | succ f ih =>
    intro vals list hl ht
    have hfr := scanGo_free (vals := vals) (cls := cls) (i := 0) (next := 0) (.inl rfl)
    simp only [propGo]
    generalize scanGo vals cls 0 0 = q at hfr
    obtain ⟨o, next⟩ := q
    cases o with
    | some i => exact ⟨rfl, ht, Nat.le_refl _⟩
    | none =>
      simp only
      cases hd : next == 0 with
      | true => exact ⟨rfl, ht, Nat.le_refl _⟩
      | false =>
        simp only [cond_false]
        have hne : next ≠ 0 := by simpa using hd
        obtain ⟨hf, hin⟩ := hfr.resolve_left hne
        obtain ⟨c, hcm, hnm⟩ := hin.resolve_right hne
        have hlo := hc.2 c hcm next hnm
        have hz := zeros_set hl ht hlo hf
        obtain ⟨h1, h2, h3⟩ := ih (setT vals next) (list ++ [next]) (by rw [setT_length]; exact hl) (tri_set ht _)
        exact ⟨h1.trans (setT_length _ _), h2, by omega⟩
def solveP (cls : List (List Int)) : Nat → List Int → Option (List Int)
  | 0, _ => none
  | f + 1, vals =>
    bif decide ((propGo cls (zeros vals + 1) vals []).2.1 ≥ 0) then none else
    bif findZ ((propGo cls (zeros vals + 1) vals []).2.2.drop 1) 0 + 1 == 0 then some (propGo cls (zeros vals + 1) vals []).2.2 else
    match solveP cls f (setT (propGo cls (zeros vals + 1) vals []).2.2 (-(findZ ((propGo cls (zeros vals + 1) vals []).2.2.drop 1) 0 + 1))) with
    | some r => some r
    | none => solveP cls f (setT (propGo cls (zeros vals + 1) vals []).2.2 (findZ ((propGo cls (zeros vals + 1) vals []).2.2.drop 1) 0 + 1))
theorem findZ_get {vals : List Int} {vars : Int} (hl : (vals.length : Int) = vars + 1) (h : findZ (vals.drop 1) 0 + 1 ≠ 0) : litOK vars (findZ (vals.drop 1) 0 + 1) ∧ vals[(findZ (vals.drop 1) 0 + 1).natAbs]? = some 0 ∧ free vals (findZ (vals.drop 1) 0 + 1) ∧ free vals (-(findZ (vals.drop 1) 0 + 1)) := by
  have hin := findZ_in (vals.drop 1) 0
  have hg : vals[(findZ (vals.drop 1) 0 + 1).natAbs]? = some 0 := by
    unfold findZ at h ⊢
    cases hf : (vals.drop 1).findIdx? (· == 0) with
    | none => rw [hf] at h; exact absurd rfl h
    | some i =>
      simp only
      obtain ⟨h1, h2, _⟩ := List.findIdx?_eq_some_iff_getElem.1 hf
      have h3 : (vals.drop 1)[i]? = some 0 := by
        rw [List.getElem?_eq_getElem h1]
        exact congrArg some (by simpa using h2)
      rw [List.getElem?_drop] at h3
      rw [show ((i : Int) + 1).natAbs = 1 + i by omega]
      exact h3
  generalize hv : findZ (vals.drop 1) 0 + 1 = v at h hg ⊢
  have hvl : v ≤ vars := by simp only [List.length_drop] at hin; omega
  have hfree : free vals v := by
    unfold free isT
    have hp : 0 < v := by omega
    have e1 : v.toNat = v.natAbs := by omega
    have e2 : (- -v).toNat = v.natAbs := by omega
    rw [if_neg (by omega), if_pos (by omega), e1, e2]
    simp [List.getD, hg]
  exact ⟨⟨h, by omega, hvl⟩, hg, hfree, hfree.2, by rw [Int.neg_neg]; exact hfree.1⟩
/-- A state that is owned over what is owned beside. -/
def StO (σ0 : St) (vars : Int) (cls : List (List Int)) (vals : List Int) (b bv : Nat) (σ : St) : Prop :=
  σ0 b = none ∧ σ0 bv = none ∧ bv ≠ b ∧ ∃ cap, vals.length ≤ cap ∧ σ = upd (upd σ0 bv (ints vals)) b (stC vars cls bv vals.length cap)
theorem StOwn.o {vars : Int} {cls : List (List Int)} {vals : List Int} {r : V} (h : StOwn σ0 vars cls vals r σ) : ∃ b bv, r = .ptr b 0 ∧ StO σ0 vars cls vals b bv σ := by
  obtain ⟨b, bv, cap, h1, h2, h3, h4, h5, h6⟩ := h
  exact ⟨b, bv, h5, h1, h2, h3, cap, h4, h6⟩
theorem StO.own {vars : Int} {cls : List (List Int)} {vals : List Int} {b bv : Nat} (h : StO σ0 vars cls vals b bv σ) : StOwn σ0 vars cls vals (.ptr b 0) σ := by
  obtain ⟨h1, h2, h3, cap, h4, h6⟩ := h
  exact ⟨b, bv, cap, h1, h2, h3, h4, rfl, h6⟩
theorem StO.at {vars : Int} {cls : List (List Int)} {vals : List Int} {b bv : Nat} (h : StO σ0 vars cls vals b bv σ) (hl : (vals.length : Int) = vars + 1) : StAt σ vars cls vals b bv := by
  obtain ⟨h1, h2, h3, cap, h4, rfl⟩ := h
  exact ⟨⟨cap, h4, upd_same _ _ _⟩, by rw [upd_ne _ _ h3, upd_same], hl, h3⟩
theorem StO.set {vars : Int} {cls : List (List Int)} {vals vals' : List Int} {b bv : Nat} (h : StO σ0 vars cls vals b bv σ) (hl : vals'.length = vals.length) : StO σ0 vars cls vals' b bv (upd σ bv (ints vals')) := by
  obtain ⟨h1, h2, h3, cap, h4, rfl⟩ := h
  refine ⟨h1, h2, h3, cap, by omega, ?_⟩
  rw [upd_comm _ h3.symm, upd_upd, hl]
theorem StO.le {vars : Int} {cls : List (List Int)} {vals : List Int} {b bv : Nat} (h : StO σ0 vars cls vals b bv σ) : ∀ c x, σ0 c = some x → σ c = some x := by
  obtain ⟨h1, h2, h3, cap, h4, rfl⟩ := h
  intro c x hc
  exact le_upd (by rw [upd_ne _ _ h3.symm]; exact h1) _ _ (le_upd h2 _ _ hc)
theorem StOwn.drop {τ : St} {vars : Int} {cls : List (List Int)} {vals : List Int} {r : V} (hle : ∀ c x, τ c = some x → σ0 c = some x) (h : StOwn σ0 vars cls vals r σ) : ∃ σ2, (∀ c x, σ2 c = some x → σ c = some x) ∧ StOwn τ vars cls vals r σ2 := by
  obtain ⟨b, bv, cap, h1, h2, h3, h4, rfl, rfl⟩ := h
  have hn : ∀ c, σ0 c = none → τ c = none := by
    intro c hc
    cases ht : τ c with
    | none => rfl
    | some x => rw [hle c x ht] at hc; cases hc
  refine ⟨upd (upd τ bv (ints vals)) b (stC vars cls bv vals.length cap), fun c x hc => ?_, b, bv, cap, hn _ h1, hn _ h2, h3, h4, rfl, rfl⟩
  by_cases hcb : c = b
  · subst hcb; rw [upd_same] at hc ⊢; exact hc
  · rw [upd_ne _ _ hcb] at hc ⊢
    by_cases hcv : c = bv
    · subst hcv; rw [upd_same] at hc ⊢; exact hc
    · rw [upd_ne _ _ hcv] at hc ⊢; exact hle _ _ hc
theorem propagate_frz {vars : Int} {cls : List (List Int)} {vals : List Int} {b bv : Nat} (h : StAt σ vars cls vals b bv) (hv : vars ≤ 1000000) (hc : ClsOK vars cls) (ht : tri vals) :
    Ret Try.prog Γ 57 [.ptr b 0] σ (.tup [intsV (propGo cls (zeros vals + 1) vals []).1, .int .i64 (propGo cls (zeros vals + 1) vals []).2.1]) (upd σ bv (ints (propGo cls (zeros vals + 1) vals []).2.2)) :=
  (propagate_ok h hv hc ht).conv fun r s ⟨rl, e, ho⟩ => by
    subst e
    have hcv := ho.conv (ints_one _)
    refine ⟨.tup [intsV (propGo cls (zeros vals + 1) vals []).1, .int .i64 (propGo cls (zeros vals + 1) vals []).2.1], _, ⟨hcv.1, .tup _ _ rfl fun i x y hy hx => ?_⟩, rfl, rfl⟩
    match i with
    | 0 => simp at hx hy; subst hx hy; exact hcv.2
    | 1 => simp at hx hy; subst hx hy; exact .refl _
    | i + 2 => simp at hx
end Go.Proofs.Ytlojopaebdnacaa.Lg
