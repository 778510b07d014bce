/- The program's functions, one by one: what is known of variables, and what follows. -/
import Derived.Test.YtlojopaebdnacaaMa
set_option linter.unusedSimpArgs false
set_option linter.unusedVariables false
namespace Go.Proofs.Ytlojopaebdnacaa.Lg
open Go
attribute [local irreducible] SRun DS DRun
variable {Γ : St} {σ σ0 : St}
/-- A copy in new memory, of slices of one cell. -/
theorem cloneI_ok {x : V} {cells : List V} (hx : (∃ ex es xs, x = .isl ex es xs) ∨ ∃ b es off len cap, x = .msl b es off len cap) (hsrc : srcV σ 1 x = some (cells, cells.length)) (hl : cells.length ≤ 1000000000) :
    ACalls Try.prog Γ 107 [x] σ fun r σ' => OwnS σ 1 cells cells.length r σ' := by
  refine acalls_W c107_ok rfl ?_
  simp only [c107, go_sem, stepW_iaddr_isl, stepW_iaddr_msl, stepW_idxs, stepK_iaddr_isl, stepK_iaddr_msl, stepK_idxs, ne_eq, ↓reduceIte]
  refine SRun.eqsR hx ?_
  intro q hq
  simp only [go_sem, stepW_iaddr_isl, stepW_iaddr_msl, stepW_idxs, stepK_iaddr_isl, stepK_iaddr_msl, stepK_idxs, ne_eq, ↓reduceIte]
  refine iteW_of (fun h => ?_) (fun h => ?_)
  · subst h
    simp only [go_sem, stepW_iaddr_isl, stepW_iaddr_msl, stepW_idxs, stepK_iaddr_isl, stepK_iaddr_msl, stepK_idxs, ne_eq, ↓reduceIte]
    have hc : cells = [] := by
      rcases hx with ⟨ex, es, xs, rfl⟩ | ⟨b, es, off, len, cap, rfl⟩
      · have hxs : xs = [] := by
          by_cases he : xs = []
          · exact he
          · have := hq he; cases this
        subst hxs
        simp [srcV, flat] at hsrc
        exact hsrc.1
      · have : true = false := hq
        cases this
    subst hc
    exact W_retR c107_ok rfl (OwnS.nil _ _)
  · simp only [go_sem, stepW_iaddr_isl, stepW_iaddr_msl, stepW_idxs, stepK_iaddr_isl, stepK_iaddr_msl, stepK_idxs, ne_eq, ↓reduceIte]
    refine SRun.appO (OwnS.nil 1 1) hsrc (by simp) (by omega) ?_
    intro r σ' ho
    simp only [go_sem, stepW_iaddr_isl, stepW_iaddr_msl, stepW_idxs, stepK_iaddr_isl, stepK_iaddr_msl, stepK_idxs, ne_eq, ↓reduceIte]
    refine W_retR c107_ok rfl ?_
    have ho2 : OwnS σ 1 cells cells.length r σ' := by simpa using ho
    exact ho2
/-- The first place of a number, or -1. -/
def findZ (xs : List Int) (y : Int) : Int := match xs.findIdx? (· == y) with | some i => (i : Int) | none => -1
/-- A state: the formula, and what is known. -/
def stC (vars : Int) (cls : List (List Int)) (bv n cap : Nat) : List V := [.int .i64 vars, .isl false 1 (clsV cls), .msl bv 1 0 n cap]
structure StAt (σ : St) (vars : Int) (cls : List (List Int)) (vals : List Int) (b bv : Nat) : Prop where
  st' : ∃ cap, vals.length ≤ cap ∧ σ b = some (stC vars cls bv vals.length cap)
  vl : σ bv = some (ints vals)
  len : (vals.length : Int) = vars + 1
  ne : bv ≠ b
def litOK (vars x : Int) : Prop := x ≠ 0 ∧ -vars ≤ x ∧ x ≤ vars
def zeros (vals : List Int) : Nat := (vals.drop 1).count 0
theorem StAt.mono {σ' : St} {vars : Int} {cls : List (List Int)} {vals : List Int} {b bv : Nat} (h : StAt σ vars cls vals b bv) (hle : ∀ b c, σ b = some c → σ' b = some c) : StAt σ' vars cls vals b bv :=
  ⟨h.st'.imp fun cap hc => ⟨hc.1, hle _ _ hc.2⟩, hle _ _ h.vl, h.len, h.ne⟩
theorem StAt.set {vars : Int} {cls : List (List Int)} {vals vals' : List Int} {b bv : Nat} (h : StAt σ vars cls vals b bv) (hl : vals'.length = vals.length) : StAt (upd σ bv (ints vals')) vars cls vals' b bv :=
  ⟨h.st'.imp fun cap hc => ⟨by rw [hl]; exact hc.1, by rw [upd_ne _ _ h.ne.symm, hl]; exact hc.2⟩, upd_same _ _ _, by rw [hl]; exact h.len, h.ne⟩
/-- The clauses of a formula of some variables. -/
def ClsOK (vars : Int) (cls : List (List Int)) : Prop := Small cls ∧ ∀ c ∈ cls, ∀ x ∈ c, litOK vars x
/-- A state that has been made. -/
def StOwn (σ0 : St) (vars : Int) (cls : List (List Int)) (vals : List Int) (r : V) (σ : St) : Prop :=
  ∃ b bv cap, σ0 b = none ∧ σ0 bv = none ∧ bv ≠ b ∧ vals.length ≤ cap ∧ r = .ptr b 0 ∧ σ = upd (upd σ0 bv (ints vals)) b (stC vars cls bv vals.length cap)
end Go.Proofs.Ytlojopaebdnacaa.Lg
