/- What is proved of any expression, plain: codes, the formula of its opposite, the answer. No program is in sight here. -/
import Derived.Test.YtdenfjbhkdhlkaaKv9
set_option linter.unusedSimpArgs false
set_option linter.unusedVariables false
namespace Go.Proofs.Ytdenfjbhkdhlkaa.Lg
open Go
theorem innerL_size : ∀ {ks : List Ex}, (∀ e ∈ ks, innerE e ≤ sizeE e) → innerL ks ≤ sizeL ks := by
  intro ks
  induction ks with
  | nil => intro _; simp [innerL, sizeL]
  | cons e r ih =>
    intro h
    have h1 := h e (by simp)
    have h2 := ih fun x hx => h x (by simp [hx])
    simp only [innerL, sizeL]; omega
theorem inner_size : ∀ e, innerE e ≤ sizeE e := by
  refine Ex.ind fun k n ks ih => ?_
  have := innerL_size ih
  simp only [innerE, sizeE]
  split <;> omega
/-- The gates and the literal of an expression. -/
def gsE (inp : Int) (e : Ex) : List (Int × Int) := (makeP inp e []).2
def liE (inp : Int) (e : Ex) : Int := (makeP inp e []).1
/-- What an expression's circuit is refused with, or 0. -/
def codeE (inp : Int) (e : Ex) : Int := if inp < 0 ∨ 12 < inp then 5 else if okE e = false then 1 else if inp ≤ mostE e then 5 else if 400 < (gsE inp e).length then 11 else 0
structure Built (inp : Int) (e : Ex) : Prop where
  rng : 0 ≤ inp ∧ inp ≤ 12
  ok : okE e = true
  right : rightE e = true
  most : mostE e < inp
  few : (gsE inp e).length ≤ 400
  gates : GatesOK inp (gsE inp e)
  lit : LitOK inp (gsE inp e) (liE inp e)
  nlit : LitOK inp (gsE inp e) (notP (liE inp e))
theorem codeE_cases (inp : Int) (e : Ex) : codeE inp e = 1 ∨ codeE inp e = 5 ∨ codeE inp e = 11 ∨ codeE inp e = 0 := by
  unfold codeE
  split
  · simp
  split
  · simp
  split
  · simp
  split <;> simp
theorem built {inp : Int} {e : Ex} (h : codeE inp e = 0) : Built inp e := by
  unfold codeE at h
  split at h
  · cases h
  rename_i h1
  split at h
  · cases h
  rename_i h2
  split at h
  · cases h
  rename_i h3
  split at h
  · cases h
  rename_i h4
  have hok : okE e = true := by simpa using h2
  have hr := (okE_right hok).1
  have hm : mostE e < inp := by omega
  have hl := (makeP_ok (inp := inp) (by omega) e hr [] hm).1
  refine ⟨by omega, hok, hr, hm, by omega, ?_, hl, notP_ok hl⟩
  exact (makeP_val (vs := List.replicate inp.toNat false) (by omega) (by rw [List.length_replicate]; omega) e hr [] hm gates_nil).1
/-- What is answered of an expression: whether it is proved, values, steps, a code. -/
structure Ans where
  valid : Bool
  vals : List Bool
  steps : List (Bool × List Int)
  code : Int
def proveA (n : Nat) (vars : Int) (cls : List (List Int)) : Ans := bif cnfB vars cls then (match modelP vars cls with
    | some v => ⟨false, (valsB v).take n, [], 0⟩
    | none => bif (refA vars cls).2 == 0 then ⟨true, [], (refA vars cls).1, 0⟩ else ⟨false, [], [], (refA vars cls).2⟩) else ⟨false, [], [], 11⟩
def fA (vars : Int) (cls : List (List Int)) : V := bif cnfB vars cls then .tup [cnfV vars cls, .int .i64 0] else .tup [cnfV 0 [], .int .i64 11]
/-- The formula of the opposite, or a code. -/
def fE (inp : Int) (e : Ex) : V := if codeE inp e = 0 then fA (inp + (gsE inp e).length) (tsP inp (gsE inp e) (notP (liE inp e))) else .tup [cnfV 0 [], .int .i64 (codeE inp e)]
def ansE (inp : Int) (e : Ex) : Ans := if codeE inp e = 0 then proveA inp.toNat (inp + (gsE inp e).length) (tsP inp (gsE inp e) (notP (liE inp e))) else ⟨false, [], [], codeE inp e⟩
def cfE (inp : Int) (e : Ex) : Int × Int × List (List Int) := if codeE inp e = 0 then (bif cnfB (inp + (gsE inp e).length) (tsP inp (gsE inp e) (notP (liE inp e))) then (0, inp + (gsE inp e).length, tsP inp (gsE inp e) (notP (liE inp e))) else (11, 0, [])) else (codeE inp e, 0, [])
theorem tsA_fA (inp : Int) (gs : List (Int × Int)) (x : Int) : tsA inp gs x = fA (inp + gs.length) (tsP inp gs x) := rfl
end Go.Proofs.Ytdenfjbhkdhlkaa.Lg
