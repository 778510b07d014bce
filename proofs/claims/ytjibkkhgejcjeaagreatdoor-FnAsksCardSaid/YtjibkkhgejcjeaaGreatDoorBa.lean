/- Words and lines of texts, and what is read of them, plain. No program is in sight here. -/
import Derived.Test.YtjibkkhgejcjeaaGreatDoorAa
import Derived.Lib.Split
import Derived.Lib.SplitLaws
import Derived.Lib.CountLaws
set_option linter.unusedSimpArgs false
set_option linter.unusedVariables false
namespace Go.Proofs.YtjibkkhgejcjeaaGreatDoor.Lg
open Go Go.Lib
/-- A word, and its place. -/
abbrev Wd := List UInt8 × Nat
def flushW (cur : List UInt8) (i : Nat) : List Wd := if cur = [] then [] else [(cur, i - cur.length)]
/-- The words of a line from a place on; 'cur' is the word that is being read. -/
def wordsGo (bl : UInt8 → Bool) : List UInt8 → Nat → List UInt8 → List Wd
  | [], i, cur => flushW cur i
  | c :: r, i, cur => if bl c then flushW cur i ++ wordsGo bl r (i + 1) [] else wordsGo bl r (i + 1) (cur ++ [c])
def wordsP (bl : UInt8 → Bool) (line : List UInt8) (i : Nat) : List Wd := wordsGo bl line i []
/-! Lines that say something, of formulas and proofs -/
/-! A formula that is read -/
def textW (w : List Wd) (i : Nat) : List UInt8 := (w.getD i ([], 0)).1
def placeW (w : List Wd) (i : Nat) : Int := (w.getD i ([], 0)).2
/-- What is read: variables and clauses, a code, a place. -/
structure DimR where
  vars : Int
  cls : List (List Int)
  code : Int
  place : Int
def DimR.bad (code place : Int) : DimR := ⟨0, [], code, place⟩
/-! A proof that is read -/
/-! Texts that are written -/
/-! What is written is read -/
theorem decDigits_len : ∀ (k n : Nat), n < 10 ^ (k + 1) → (decDigits n).length ≤ k + 1 := by
  intro k
  induction k with
  | zero => intro n h; rw [decDigits_small (by simpa using h)]; simp
  | succ k ih =>
    intro n h
    by_cases hs : n < 10
    · rw [decDigits_small hs]; simp
    · rw [decDigits_big hs, List.length_append, List.length_singleton]
      have : n / 10 < 10 ^ (k + 1) := by
        rw [Nat.div_lt_iff_lt_mul (by omega)]
        rw [Nat.pow_succ] at h; exact h
      have := ih _ this
      omega
theorem itoa_len {n : Int} (h0 : -1000000 ≤ n) (h1 : n ≤ 1000000) : (itoa n).length ≤ 8 := by
  have hl : (decDigits n.natAbs).length ≤ 7 := decDigits_len 6 _ (by have : (10:Nat) ^ (6 + 1) = 10000000 := by decide
                                                                     omega)
  unfold itoa
  split
  · simp; omega
  · rename_i hn
    have e : n.toNat = n.natAbs := by omega
    rw [e]; omega
end Go.Proofs.YtjibkkhgejcjeaaGreatDoor.Lg
