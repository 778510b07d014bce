/- Words and lines of texts, and what is read of them, plain. No program is in sight here. -/
import Derived.Test.YtjibkkhgejcjeaaGreatDoorAa
import Derived.Lib.Split
import Derived.Lib.SplitLaws
import Derived.Lib.CountLaws
set_option linter.unusedSimpArgs false
set_option linter.unusedVariables false
namespace Go.Proofs.YtjibkkhgejcjeaaGreatDoor.Lg
open Go Go.Lib
/-- A word, and its place. -/
abbrev Wd := List UInt8 × Nat
def flushW (cur : List UInt8) (i : Nat) : List Wd := if cur = [] then [] else [(cur, i - cur.length)]
/-- The words of a line from a place on; 'cur' is the word that is being read. -/
def wordsGo (bl : UInt8 → Bool) : List UInt8 → Nat → List UInt8 → List Wd
  | [], i, cur => flushW cur i
  | c :: r, i, cur => if bl c then flushW cur i ++ wordsGo bl r (i + 1) [] else wordsGo bl r (i + 1) (cur ++ [c])
def wordsP (bl : UInt8 → Bool) (line : List UInt8) (i : Nat) : List Wd := wordsGo bl line i []
/-- A text parted at a byte. -/
def cutGo (b : UInt8) : List UInt8 → List UInt8 → List (List UInt8)
  | [], cur => [cur]
  | c :: r, cur => if c = b then cur :: cutGo b r [] else cutGo b r (cur ++ [c])
def cutP (b : UInt8) (t : List UInt8) : List (List UInt8) := cutGo b t []
theorem cutGo_cur (b : UInt8) : ∀ (t cur : List UInt8), cutGo b t cur = (cur ++ (cutP b t).headD []) :: (cutP b t).drop 1 := by
  intro t
  induction t with
  | nil => intro cur; simp [cutP, cutGo]
  | cons c r ih =>
    intro cur
    unfold cutP
    by_cases h : c = b
    · simp [cutGo, h]
    · simp only [cutGo, if_neg h]
      rw [ih (cur ++ [c]), ih ([] ++ [c])]
      simp
theorem cutP_ne (b : UInt8) (t : List UInt8) : cutP b t ≠ [] := by
  unfold cutP; rw [cutGo_cur]; simp
theorem cutP_hit (b : UInt8) (r : List UInt8) : cutP b (b :: r) = [] :: cutP b r := by simp [cutP, cutGo]
theorem cutP_miss {b c : UInt8} (h : c ≠ b) (r : List UInt8) : cutP b (c :: r) = (c :: (cutP b r).headD []) :: (cutP b r).drop 1 := by
  show cutGo b (c :: r) [] = _
  simp only [cutGo, if_neg h]
  rw [cutGo_cur]; simp
theorem cutP_app {b : UInt8} : ∀ {l : List UInt8}, (∀ c ∈ l, c ≠ b) → ∀ (r : List UInt8), cutP b (l ++ b :: r) = l :: cutP b r := by
  intro l
  induction l with
  | nil => intro _ r; exact cutP_hit b r
  | cons c l ih =>
    intro h r
    rw [List.cons_append, cutP_miss (h c (by simp)), ih (fun x hx => h x (by simp [hx])) r]; rfl
theorem cutP_one {b : UInt8} : ∀ {l : List UInt8}, (∀ c ∈ l, c ≠ b) → cutP b l = [l] := by
  intro l
  induction l with
  | nil => intro _; rfl
  | cons c l ih =>
    intro h
    rw [cutP_miss (h c (by simp)), ih (fun x hx => h x (by simp [hx]))]; rfl
theorem index_hit (b : UInt8) (r : List UInt8) : index (b :: r) [b] = 0 := by simp [index, List.isPrefixOf]
theorem index_miss {b c : UInt8} (h : c ≠ b) (r : List UInt8) : index (c :: r) [b] = if index r [b] == -1 then -1 else index r [b] + 1 := by
  have hp : [b].isPrefixOf (c :: r) = false := by
    have : (b == c) = false := by simpa using fun e => h e.symm
    simp [List.isPrefixOf, this]
  show (if [b].isPrefixOf (c :: r) then (0 : Int) else if index r [b] == -1 then -1 else index r [b] + 1) = _
  rw [if_neg (by rw [hp]; simp)]
theorem index_low (b : UInt8) : ∀ (r : List UInt8), index r [b] = -1 ∨ 0 ≤ index r [b] := by
  intro r
  induction r with
  | nil => left; simp [index]
  | cons c r ih =>
    by_cases h : c = b
    · right; subst h; rw [index_hit]; omega
    · rw [index_miss h]
      rcases ih with h1 | h1
      · left; rw [h1]; rfl
      · right
        have : (index r [b] == -1) = false := by rw [beq_eq_false_iff_ne]; omega
        rw [this]; simp; omega
/-- The library's parting is the plain one. -/
theorem split_cut (b : UInt8) : ∀ (t : List UInt8), split t [b] = cutP b t := by
  intro t
  induction t with
  | nil => simp [split, count, countFrom, index, splitK, cutP, cutGo]
  | cons c r ih =>
    have hc := count_one b (c :: r)
    unfold split at *
    by_cases h : c = b
    · subst h
      rw [cutP_hit, ← ih, count_cons_eq, Nat.add_comm]
      simp [splitK, index_hit]
    · rw [cutP_miss h, ← ih, count_cons_ne _ _ _ h]
      cases hk : count r [b] with
      | zero => simp [splitK]
      | succ k =>
        have hi : index r [b] ≠ -1 := fun e => by rw [count_miss e] at hk; cases hk
        have h0 : 0 ≤ index r [b] := (index_low b r).resolve_left hi
        have hf : (index r [b] == -1) = false := by rw [beq_eq_false_iff_ne]; exact hi
        obtain ⟨m, hm⟩ : ∃ m : Nat, index r [b] = m := ⟨(index r [b]).toNat, by omega⟩
        have e2 : index (c :: r) [b] = ((m + 1 : Nat) : Int) := by rw [index_miss h, hf]; simp; omega
        have hf2 : (index (c :: r) [b] == -1) = false := by rw [beq_eq_false_iff_ne]; omega
        simp only [splitK, hf, hf2, Bool.false_eq_true, if_false]
        rw [e2, hm]
        simp
/-! Lines that say something, of formulas and proofs -/
def blF (c : UInt8) : Bool := c == 32 || c == 9 || c == 13
def saysF : List Wd → Bool
  | [] => false
  | w :: _ => w.1 != [99]
def linesP : Nat → List (List UInt8) → List (List Wd × Nat)
  | _, [] => []
  | i, l :: r => if saysF (wordsP blF l i) then (wordsP blF l i, i + l.length) :: linesP (i + l.length + 1) r else linesP (i + l.length + 1) r
/-! A formula that is read -/
def litOKt (vars x : Int) : Prop := x ≠ 0 ∧ -vars ≤ x ∧ x ≤ vars
def litC (vars most : Int) (s : List (List Int) × List Int) (t : List UInt8) : Int :=
  match numP t with
  | none => 4
  | some x => if (s.1.length : Int) = most then 7 else if x = 0 then 0 else if ¬ (-vars ≤ x ∧ x ≤ vars) then 5 else if s.2.length = 12 then 11 else 0
def litN (s : List (List Int) × List Int) (t : List UInt8) : List (List Int) × List Int :=
  match numP t with
  | none => s
  | some x => if x = 0 then (s.1 ++ [s.2], []) else (s.1, s.2 ++ [x])
def litsP (vars most : Int) : List Wd → List (List Int) × List Int → Int × Int × (List (List Int) × List Int)
  | [], s => (0, 0, s)
  | w :: r, s => if litC vars most s w.1 = 0 then litsP vars most r (litN s w.1) else (litC vars most s w.1, w.2, s)
def textW (w : List Wd) (i : Nat) : List UInt8 := (w.getD i ([], 0)).1
def placeW (w : List Wd) (i : Nat) : Int := (w.getD i ([], 0)).2
def headC (w : List Wd) : Int × Int :=
  if textW w 0 ≠ [112] ∨ w.length ≠ 4 ∨ textW w 1 ≠ [99, 110, 102] then (4, placeW w 0)
  else if numP (textW w 2) = none ∨ (numP (textW w 2)).getD 0 < 0 then (4, placeW w 2)
  else if numP (textW w 3) = none ∨ (numP (textW w 3)).getD 0 < 0 then (4, placeW w 3)
  else if 40 < (numP (textW w 2)).getD 0 then (5, placeW w 2)
  else if 300 < (numP (textW w 3)).getD 0 then (5, placeW w 3)
  else (0, 0)
def varsW (w : List Wd) : Int := (numP (textW w 2)).getD 0
def mostW (w : List Wd) : Int := (numP (textW w 3)).getD 0
/-- What is read: variables and clauses, a code, a place. -/
structure DimR where
  vars : Int
  cls : List (List Int)
  code : Int
  place : Int
def DimR.bad (code place : Int) : DimR := ⟨0, [], code, place⟩
def dimEnd (vars most : Int) (len : Nat) (R : Int × Int × (List (List Int) × List Int)) : DimR :=
  if R.1 ≠ 0 then .bad R.1 R.2.1 else if R.2.2.2 ≠ [] ∨ (R.2.2.1.length : Int) < most then .bad 4 len else ⟨vars, R.2.2.1, 0, 0⟩
def dimL (len : Nat) : List (List Wd × Nat) → DimR
  | [] => .bad 4 len
  | l :: ls => if (headC l.1).1 ≠ 0 then .bad (headC l.1).1 (headC l.1).2 else dimEnd (varsW l.1) (mostW l.1) len (litsP (varsW l.1) (mostW l.1) (ls.flatMap (·.1)) ([], []))
def dimP (t : List UInt8) : DimR := if 65536 < t.length then .bad 2 0 else dimL t.length (linesP 0 (cutP 10 t))
/-! A proof that is read -/
def stepGo : List Wd → List Int → Int → List Int × Int × Int
  | [], c, e => (c, 4, e)
  | w :: r, c, e => match numP w.1 with
    | none => (c, 4, w.2)
    | some x => if x = 0 then (match r with | [] => (c, 0, 0) | v :: _ => (c, 4, v.2)) else if ¬ (-40 ≤ x ∧ x ≤ 40) then (c, 5, w.2) else if c.length = 12 then (c, 11, w.2) else stepGo r (c ++ [x]) e
def delW (w : List Wd) : Bool := textW w 0 == [100]
def restW (w : List Wd) : List Wd := if delW w then w.drop 1 else w
def proofGo : List (List Wd × Nat) → List (Bool × List Int) → List (Bool × List Int) × Int × Int
  | [], acc => (acc, 0, 0)
  | l :: r, acc => if (stepGo (restW l.1) [] l.2).2.1 ≠ 0 then ([], (stepGo (restW l.1) [] l.2).2.1, (stepGo (restW l.1) [] l.2).2.2) else if acc.length = 200 then ([], 7, placeW l.1 0) else proofGo r (acc ++ [(delW l.1, (stepGo (restW l.1) [] l.2).1)])
def proofP (t : List UInt8) : List (Bool × List Int) × Int × Int := if 65536 < t.length then ([], 2, 0) else proofGo (linesP 0 (cutP 10 t)) []
/-! Texts that are written -/
def clauseT (c : List Int) : List UInt8 := c.flatMap (fun x => itoa x ++ [32]) ++ [48, 10]
def dimT (vars : Int) (cls : List (List Int)) : List UInt8 := [112, 32, 99, 110, 102, 32] ++ itoa vars ++ [32] ++ itoa cls.length ++ [10] ++ cls.flatMap clauseT
def stepT (s : Bool × List Int) : List UInt8 := (if s.1 then [100, 32] else []) ++ clauseT s.2
def proofT (l : List (Bool × List Int)) : List UInt8 := l.flatMap stepT
/-! What is written is read -/
theorem wordsGo_one {bl : UInt8 → Bool} : ∀ {w : List UInt8}, (∀ c ∈ w, bl c = false) → ∀ (r : List UInt8) (i : Nat) (cur : List UInt8), wordsGo bl (w ++ r) i cur = wordsGo bl r (i + w.length) (cur ++ w) := by
  intro w
  induction w with
  | nil => intro _ r i cur; simp
  | cons c w ih =>
    intro h r i cur
    rw [List.cons_append]
    simp only [wordsGo, h c (by simp), Bool.false_eq_true, if_false]
    rw [ih (fun x hx => h x (by simp [hx]))]
    simp [Nat.add_assoc, Nat.add_comm, Nat.add_left_comm]
theorem words_end {bl : UInt8 → Bool} {w : List UInt8} (h : ∀ c ∈ w, bl c = false) (h0 : w ≠ []) (i : Nat) : wordsGo bl w i [] = [(w, i)] := by
  have := wordsGo_one h [] i []
  rw [List.append_nil, List.nil_append] at this
  rw [this]
  simp [wordsGo, flushW, h0]
theorem words_sep {bl : UInt8 → Bool} {w : List UInt8} {b : UInt8} (h : ∀ c ∈ w, bl c = false) (h0 : w ≠ []) (hb : bl b = true) (r : List UInt8) (i : Nat) : wordsGo bl (w ++ b :: r) i [] = (w, i) :: wordsGo bl r (i + w.length + 1) [] := by
  rw [wordsGo_one h]
  simp [wordsGo, hb, flushW, h0]
theorem itoa_ne (n : Int) : itoa n ≠ [] := by
  unfold itoa; split
  · simp
  · exact decDigits_ne _
theorem decDigits_dig : ∀ (n : Nat), ∀ c ∈ decDigits n, 48 ≤ c.toNat ∧ c.toNat ≤ 57 := by
  intro n
  induction n using Nat.strongRecOn with
  | _ n ih =>
    intro c hc
    have one : ∀ k, k < 10 → (UInt8.ofNat (48 + k)).toNat = 48 + k := fun k hk => by rw [UInt8.toNat_ofNat']; omega
    by_cases h : n < 10
    · rw [decDigits_small h, List.mem_singleton] at hc
      subst hc; rw [one n h]; omega
    · rw [decDigits_big h, List.mem_append, List.mem_singleton] at hc
      rcases hc with hc | hc
      · exact ih _ (by omega) c hc
      · subst hc; rw [one _ (by omega)]; omega
theorem itoa_dig (n : Int) : ∀ c ∈ itoa n, c = 45 ∨ (48 ≤ c.toNat ∧ c.toNat ≤ 57) := by
  intro c hc
  unfold itoa at hc
  split at hc
  · rcases List.mem_cons.1 hc with h | h
    · exact .inl h
    · exact .inr (decDigits_dig _ c h)
  · exact .inr (decDigits_dig _ c hc)
theorem itoa_solid (n : Int) : ∀ c ∈ itoa n, blF c = false ∧ c ≠ 10 ∧ c ≠ 32 := by
  intro c hc
  have h : c = 45 ∨ (48 ≤ c.toNat ∧ c.toNat ≤ 57) := itoa_dig n c hc
  have ne : ∀ d : UInt8, d.toNat < 40 → c ≠ d := fun d hd e => by
    subst e
    rcases h with h | h
    · rw [h] at hd; exact absurd hd (by decide)
    · omega
  refine ⟨?_, ne 10 (by decide), ne 32 (by decide)⟩
  simp only [blF, Bool.or_eq_false_iff, beq_eq_false_iff_ne]
  exact ⟨⟨ne 32 (by decide), ne 9 (by decide)⟩, ne 13 (by decide)⟩
theorem decDigits_len : ∀ (k n : Nat), n < 10 ^ (k + 1) → (decDigits n).length ≤ k + 1 := by
  intro k
  induction k with
  | zero => intro n h; rw [decDigits_small (by simpa using h)]; simp
  | succ k ih =>
    intro n h
    by_cases hs : n < 10
    · rw [decDigits_small hs]; simp
    · rw [decDigits_big hs, List.length_append, List.length_singleton]
      have : n / 10 < 10 ^ (k + 1) := by
        rw [Nat.div_lt_iff_lt_mul (by omega)]
        rw [Nat.pow_succ] at h; exact h
      have := ih _ this
      omega
theorem numP_itoa {n : Int} (h0 : -1000000 ≤ n) (h1 : n ≤ 1000000) : numP (itoa n) = some n := by
  refine numQ_numP ?_ rfl
  have hl : (decDigits n.natAbs).length ≤ 7 := decDigits_len 6 _ (by have : (10:Nat) ^ (6 + 1) = 10000000 := by decide
                                                                     omega)
  unfold itoa
  split
  · rw [trim_minus]; omega
  · rename_i hn
    have e : n.toNat = n.natAbs := by omega
    rw [e, trim_other]
    · omega
    · intro h
      obtain ⟨a, r, ha, q1, q2⟩ := decDigits_first n.natAbs
      rw [ha, List.head?_cons, Option.some.injEq] at h
      rw [h] at q1
      exact absurd q1 (by decide)
theorem itoa_len {n : Int} (h0 : -1000000 ≤ n) (h1 : n ≤ 1000000) : (itoa n).length ≤ 8 := by
  have hl : (decDigits n.natAbs).length ≤ 7 := decDigits_len 6 _ (by have : (10:Nat) ^ (6 + 1) = 10000000 := by decide
                                                                     omega)
  unfold itoa
  split
  · simp; omega
  · rename_i hn
    have e : n.toNat = n.natAbs := by omega
    rw [e]; omega
end Go.Proofs.YtjibkkhgejcjeaaGreatDoor.Lg
