/- Questions read, plain: the program's reading, word by word, is the reference's. -/
import Derived.Test.YtjibkkhgejcjeaaGreatDoorBa
set_option linter.unusedSimpArgs false
set_option linter.unusedVariables false
namespace Go.Proofs.YtjibkkhgejcjeaaGreatDoor.Lg
open Go Go.Lib
abbrev Wrd := List UInt8
/-- Where a word stands in a list. -/
def idxP (l : List Wrd) (x : Wrd) : Int := match l.findIdx? (· == x) with
  | some i => i
  | none => -1
theorem idxP_lt (l : List Wrd) (x : Wrd) : -1 ≤ idxP l x ∧ idxP l x < l.length := by
  unfold idxP
  split
  · rename_i i h
    have := (List.findIdx?_eq_some_iff_findIdx_eq.1 h).1
    omega
  · omega
abbrev AskT := List Wrd × Int
def nextP (s : AskT) : Wrd × AskT := if s.2 ≠ 0 then ([], s) else match s.1 with
  | [] => ([], ([], 4))
  | w :: r => (w, (r, 0))
def takesP (x : Wrd) (s : AskT) : Bool × AskT := if s.2 ≠ 0 then (false, s) else match s.1 with
  | [] => (false, s)
  | w :: r => if w = x then (true, (r, 0)) else (false, s)
def mustP (b : Bool) (s : AskT) : AskT := if s.2 = 0 ∧ b = false then (s.1, 4) else s
def routerP (rs : List Wrd) (s : AskT) : Int × AskT :=
  (max 0 (idxP rs (nextP s).1), ((nextP s).2.1, if (nextP s).2.2 = 0 ∧ idxP rs (nextP s).1 < 0 then 9 else (nextP s).2.2))
def boundP (w : Wrd) (lo hi : Int) : Int × Int := match numP w with
  | none => (0, 4)
  | some x => if lo ≤ x ∧ x ≤ hi then (x, 0) else (0, 5)
def numberP (hi : Int) (s : AskT) : Int × AskT :=
  if (nextP s).2.2 ≠ 0 then (0, (nextP s).2) else ((boundP (nextP s).1 0 hi).1, ((nextP s).2.1, (boundP (nextP s).1 0 hi).2))
/-- What a question says, or a code. -/
structure AskR where
  kind : Int
  from_ : Int
  port : Int
  way : Int
  k : Int
  code : Int
def AskR.bad (c : Int) : AskR := ⟨0, 0, 0, 0, 0, c⟩
def wVerify : Wrd := [118, 101, 114, 105, 102, 121]
def wVia : Wrd := [118, 105, 97]
def wPort : Wrd := [112, 111, 114, 116]
def wFail : Wrd := [102, 97, 105, 108]
def kindsP : List Wrd := [[], [114, 101, 97, 99, 104], [110, 101, 118, 101, 114], [119, 97, 121], [111, 119, 110]]
def optI (word : Wrd) (hi d : Int) (s : AskT) : Int × AskT := if (takesP word s).1 then numberP hi (takesP word s).2 else (d, (takesP word s).2)
def endI (kind from_ way port k : Int) (s : AskT) : AskR := if (mustP (decide (s.1 = [])) s).2 ≠ 0 then .bad (mustP (decide (s.1 = [])) s).2 else ⟨kind, from_, port, way, k, 0⟩
def tailI (kind from_ way : Int) (s : AskT) : AskR :=
  endI kind from_ way (optI wPort 15 (-1) s).1 (optI wFail 2 0 (optI wPort 15 (-1) s).2).1 (optI wFail 2 0 (optI wPort 15 (-1) s).2).2
def wayI (rs : List Wrd) (s : AskT) : Int × AskT := routerP rs (mustP (takesP wVia s).1 (takesP wVia s).2)
def fromI (rs : List Wrd) (kind : Int) (s : AskT) : AskR :=
  if kind = 3 then tailI kind (routerP rs s).1 (wayI rs (routerP rs s).2).1 (wayI rs (routerP rs s).2).2 else tailI kind (routerP rs s).1 0 (routerP rs s).2
def kindI (rs : List Wrd) (s : AskT) : AskR := fromI rs (idxP kindsP (nextP s).1) (mustP (decide (0 < idxP kindsP (nextP s).1)) (nextP s).2)
/-- The program's reading. -/
def askI (rs : List Wrd) (w : List Wrd) : AskR := kindI rs (mustP (takesP wVerify (w, 0)).1 (takesP wVerify (w, 0)).2)
/-- The reference's reading. -/
def optS (word : Wrd) (hi d : Int) (rest : List Wrd) : Int × Int × List Wrd := match rest with
  | a :: b :: r => if a = word then (match numP b with
      | none => (4, 0, rest)
      | some x => if 0 ≤ x ∧ x ≤ hi then (0, x, r) else (5, 0, rest)) else (0, d, rest)
  | _ => (0, d, rest)
def tailS (kind from_ way : Int) (rest : List Wrd) : AskR :=
  if (optS wPort 15 (-1) rest).1 ≠ 0 then .bad (optS wPort 15 (-1) rest).1
  else if (optS wFail 2 0 (optS wPort 15 (-1) rest).2.2).1 ≠ 0 then .bad (optS wFail 2 0 (optS wPort 15 (-1) rest).2.2).1
  else if (optS wFail 2 0 (optS wPort 15 (-1) rest).2.2).2.2 ≠ [] then .bad 4
  else ⟨kind, from_, (optS wPort 15 (-1) rest).2.1, way, (optS wFail 2 0 (optS wPort 15 (-1) rest).2.2).2.1, 0⟩
def askS (rs : List Wrd) (w : List Wrd) : AskR := match w with
  | v :: kw :: fw :: rest =>
    if v ≠ wVerify then .bad 4 else if idxP kindsP kw < 1 then .bad 4 else if idxP rs fw < 0 then .bad 9 else
    if idxP kindsP kw = 3 then (match rest with
      | va :: ww :: r2 => if va ≠ wVia then .bad 4 else if idxP rs ww < 0 then .bad 9 else tailS (idxP kindsP kw) (idxP rs fw) (idxP rs ww) r2
      | _ => .bad 4) else tailS (idxP kindsP kw) (idxP rs fw) 0 rest
  | _ => .bad 4
theorem optI_bad {word : Wrd} {hi d : Int} {s : AskT} (h : s.2 ≠ 0) : optI word hi d s = (d, s) := by simp [optI, takesP, h]
theorem tailI_bad {kind from_ way : Int} {s : AskT} (h : s.2 ≠ 0) : tailI kind from_ way s = .bad s.2 := by
  unfold tailI
  rw [optI_bad h, optI_bad h]
  simp [endI, mustP, h]
theorem routerP_bad {rs : List Wrd} {s : AskT} (h : s.2 ≠ 0) : (routerP rs s).2 = s := by
  simp [routerP, nextP, h]
theorem mustP_bad {b : Bool} {s : AskT} (h : s.2 ≠ 0) : mustP b s = s := by simp [mustP, h]
theorem fromI_bad {rs : List Wrd} {kind : Int} {s : AskT} (h : s.2 ≠ 0) : fromI rs kind s = .bad s.2 := by
  unfold fromI
  have e := routerP_bad (rs := rs) h
  have e2 : (wayI rs s).2 = s := by
    unfold wayI
    have : takesP wVia s = (false, s) := by simp [takesP, h]
    rw [this, mustP_bad h, routerP_bad h]
  split
  · rw [e, e2, tailI_bad h]
  · rw [e, tailI_bad h]
theorem kindI_bad {rs : List Wrd} {s : AskT} (h : s.2 ≠ 0) : kindI rs s = .bad s.2 := by
  unfold kindI
  have : nextP s = ([], s) := by simp [nextP, h]
  rw [this, mustP_bad h, fromI_bad h]
theorem optI_none {word : Wrd} {hi d : Int} : optI word hi d ([], 0) = (d, ([], 0)) := by simp [optI, takesP]
theorem optI_other {word a : Wrd} {r : List Wrd} {hi d : Int} (h : a ≠ word) : optI word hi d (a :: r, 0) = (d, (a :: r, 0)) := by simp [optI, takesP, h]
theorem optI_one {word : Wrd} {hi d : Int} : optI word hi d ([word], 0) = (0, ([], 4)) := by simp [optI, takesP, numberP, nextP]
theorem optI_two {word b : Wrd} {r : List Wrd} {hi d : Int} : optI word hi d (word :: b :: r, 0) = ((boundP b 0 hi).1, (r, (boundP b 0 hi).2)) := by simp [optI, takesP, numberP, nextP]
theorem endI_ok {kind from_ way port k : Int} {rest : List Wrd} : endI kind from_ way port k (rest, 0) = if rest ≠ [] then .bad 4 else ⟨kind, from_, port, way, k, 0⟩ := by
  cases rest <;> simp [endI, mustP]
theorem endI_bad {kind from_ way port k : Int} {s : AskT} (h : s.2 ≠ 0) : endI kind from_ way port k s = .bad s.2 := by simp [endI, mustP, h]
theorem optS_hit {word b : Wrd} {r : List Wrd} {hi d : Int} : optS word hi d (word :: b :: r) = (match numP b with
    | none => (4, 0, word :: b :: r)
    | some x => if 0 ≤ x ∧ x ≤ hi then (0, x, r) else (5, 0, word :: b :: r)) := by simp [optS]
/-- After the port. -/
theorem fail_both {kind from_ way port : Int} (rest : List Wrd) : endI kind from_ way port (optI wFail 2 0 (rest, 0)).1 (optI wFail 2 0 (rest, 0)).2 =
    if (optS wFail 2 0 rest).1 ≠ 0 then .bad (optS wFail 2 0 rest).1 else if (optS wFail 2 0 rest).2.2 ≠ [] then .bad 4 else ⟨kind, from_, port, way, (optS wFail 2 0 rest).2.1, 0⟩ := by
  cases rest with
  | nil => rw [optI_none, endI_ok]; simp [optS]
  | cons a r =>
    by_cases h : a = wFail
    · subst h
      cases r with
      | nil => rw [optI_one, endI_bad (by simp)]; simp [optS]
      | cons b r =>
        rw [optI_two, optS_hit]
        unfold boundP
        cases numP b with
        | none => simp [endI_bad]
        | some x =>
          by_cases hx : 0 ≤ x ∧ x ≤ 2
          · simp only [if_pos hx]; rw [endI_ok]; simp
          · simp only [if_neg hx]; rw [endI_bad (by simp)]; simp
    · rw [optI_other h, endI_ok]
      have : optS wFail 2 0 (a :: r) = (0, 0, a :: r) := by
        cases r with
        | nil => rfl
        | cons b r => simp [optS, h]
      rw [this]; simp
theorem tail_both {kind from_ way : Int} (rest : List Wrd) : tailI kind from_ way (rest, 0) = tailS kind from_ way rest := by
  unfold tailI tailS
  cases rest with
  | nil => rw [optI_none]; simp only; rw [fail_both]; rfl
  | cons a r =>
    by_cases h : a = wPort
    · subst h
      cases r with
      | nil =>
        rw [optI_one]
        simp only
        rw [optI_bad (by simp), endI_bad (by simp)]
        simp [optS, wPort, wFail]
      | cons b r =>
        rw [optI_two]
        rw [optS_hit]
        unfold boundP
        cases numP b with
        | none => simp only; rw [optI_bad (by simp), endI_bad (by simp)]; simp
        | some x =>
          by_cases hx : 0 ≤ x ∧ x ≤ 15
          · simp only [if_pos hx]; rw [fail_both]; simp
          · simp only [if_neg hx]; rw [optI_bad (by simp), endI_bad (by simp)]; simp
    · rw [optI_other h]
      have : optS wPort 15 (-1) (a :: r) = (0, -1, a :: r) := by
        cases r with
        | nil => rfl
        | cons b r => simp [optS, h]
      rw [this]
      simp only
      rw [fail_both]; simp
theorem routerP_nil {rs : List Wrd} : (routerP rs ([], 0)).2 = ([], 4) := by simp [routerP, nextP]
theorem routerP_cons {rs r : List Wrd} {w : Wrd} : routerP rs (w :: r, 0) = (max 0 (idxP rs w), (r, if idxP rs w < 0 then 9 else 0)) := by simp [routerP, nextP]
theorem ask_both (rs w : List Wrd) : askI rs w = askS rs w := by
  have hvv : ¬ (wVerify ≠ wVerify) := fun h => h rfl
  have hva' : ¬ (wVia ≠ wVia) := fun h => h rfl
  unfold askI
  cases w with
  | nil =>
    have h : mustP (takesP wVerify ([], 0)).1 (takesP wVerify ([], 0)).2 = ([], 4) := by simp [takesP, mustP]
    rw [h, kindI_bad (by simp)]; rfl
  | cons v w1 =>
    by_cases hv : v = wVerify
    case neg =>
      have h : mustP (takesP wVerify (v :: w1, 0)).1 (takesP wVerify (v :: w1, 0)).2 = (v :: w1, 4) := by simp [takesP, mustP, hv]
      rw [h, kindI_bad (by simp)]
      unfold askS
      split
      · rename_i a b c d e; cases e; rw [if_pos hv]
      · rfl
    subst hv
    have h : mustP (takesP wVerify (wVerify :: w1, 0)).1 (takesP wVerify (wVerify :: w1, 0)).2 = (w1, 0) := by simp [takesP, mustP]
    rw [h]
    cases w1 with
    | nil =>
      have h : kindI rs ([], 0) = .bad 4 := by
        unfold kindI
        have : nextP (([], 0) : AskT) = ([], ([], 4)) := by simp [nextP]
        rw [this, mustP_bad (by simp), fromI_bad (by simp)]
      rw [h]; rfl
    | cons kw w2 =>
      unfold kindI
      have hn : nextP ((kw :: w2, 0) : AskT) = (kw, (w2, 0)) := by simp [nextP]
      rw [hn]
      simp only
      by_cases hk : idxP kindsP kw < 1
      · have : mustP (decide (0 < idxP kindsP kw)) (w2, 0) = (w2, 4) := by
          rw [decide_eq_false (by omega)]; simp [mustP]
        rw [this, fromI_bad (by simp)]
        cases w2 with
        | nil => rfl
        | cons fw rest => simp only [askS]; rw [if_neg hvv, if_pos hk]
      · have : mustP (decide (0 < idxP kindsP kw)) (w2, 0) = (w2, 0) := by
          rw [decide_eq_true (by omega)]; simp [mustP]
        rw [this]
        unfold fromI
        cases w2 with
        | nil =>
          have e : (routerP rs ([], 0)).2 = ([], 4) := routerP_nil
          have e2 : (wayI rs ([], 4)).2 = ([], 4) := by
            unfold wayI
            have : takesP wVia (([], 4) : AskT) = (false, ([], 4)) := by simp [takesP]
            rw [this, mustP_bad (by simp), routerP_bad (by simp)]
          rw [e, e2, tailI_bad (by simp), tailI_bad (by simp)]
          split <;> rfl
        | cons fw rest =>
          rw [routerP_cons]
          simp only [askS]
          rw [if_neg hvv, if_neg hk]
          by_cases hf : idxP rs fw < 0
          · rw [if_pos hf, if_pos hf]
            have e2 : (wayI rs (rest, 9)).2 = (rest, 9) := by
              unfold wayI
              have : takesP wVia ((rest, 9) : AskT) = (false, (rest, 9)) := by simp [takesP]
              rw [this, mustP_bad (by simp), routerP_bad (by simp)]
            rw [e2, tailI_bad (by simp), tailI_bad (by simp)]
            split <;> rfl
          · rw [if_neg hf, if_neg hf]
            have hmx : max 0 (idxP rs fw) = idxP rs fw := by omega
            rw [hmx]
            by_cases h3 : idxP kindsP kw = 3
            · rw [if_pos h3, if_pos h3]
              unfold wayI
              cases rest with
              | nil =>
                have : mustP (takesP wVia (([], 0) : AskT)).1 (takesP wVia (([], 0) : AskT)).2 = ([], 4) := by simp [takesP, mustP]
                rw [this, routerP_bad (by simp), tailI_bad (by simp)]
              | cons va r1 =>
                by_cases hva : va = wVia
                · subst hva
                  have : mustP (takesP wVia ((wVia :: r1, 0) : AskT)).1 (takesP wVia ((wVia :: r1, 0) : AskT)).2 = (r1, 0) := by simp [takesP, mustP]
                  rw [this]
                  cases r1 with
                  | nil => rw [routerP_nil, tailI_bad (by simp)]
                  | cons ww r2 =>
                    rw [routerP_cons]
                    simp only
                    rw [if_neg hva']
                    by_cases hw : idxP rs ww < 0
                    · rw [if_pos hw, if_pos hw, tailI_bad (by simp)]
                    · rw [if_neg hw, if_neg hw, tail_both, show max 0 (idxP rs ww) = idxP rs ww by omega]
                · have : mustP (takesP wVia ((va :: r1, 0) : AskT)).1 (takesP wVia ((va :: r1, 0) : AskT)).2 = (va :: r1, 4) := by simp [takesP, mustP, hva]
                  rw [this, routerP_bad (by simp), tailI_bad (by simp)]
                  cases r1 with
                  | nil => rfl
                  | cons ww r2 => simp only; rw [if_pos hva]
            · rw [if_neg h3, if_neg h3, tail_both]
/-! The words of a line -/
def blS (c : UInt8) : Bool := c == 32
def wordsT : List UInt8 → List UInt8 → List Wrd
  | [], cur => if cur = [] then [] else [cur]
  | c :: r, cur => if c = 32 then (if cur = [] then [] else [cur]) ++ wordsT r [] else wordsT r (cur ++ [c])
theorem wordsT_go : ∀ (l : List UInt8) (i : Nat) (cur : List UInt8), (wordsGo blS l i cur).map (·.1) = wordsT l cur := by
  intro l
  induction l with
  | nil => intro i cur; simp only [wordsGo, wordsT, flushW]; split <;> simp
  | cons c r ih =>
    intro i cur
    simp only [wordsGo, wordsT]
    by_cases h : c = 32
    · have hb : blS c = true := by simp [blS, h]
      rw [if_pos h, if_pos hb, List.map_append, ih]
      congr 1
      simp only [flushW]; split <;> simp
    · have hb : ¬ blS c = true := by simp [blS, h]
      rw [if_neg h, if_neg hb, ih]
theorem wordsT_len : ∀ (l cur : List UInt8), (wordsT l cur).length ≤ l.length + 1 := by
  intro l
  induction l with
  | nil => intro cur; simp only [wordsT]; split <;> simp
  | cons c r ih =>
    intro cur
    simp only [wordsT]
    split
    · have := ih []
      rw [List.length_append]
      split <;> simp <;> omega
    · have := ih (cur ++ [c]); simp; omega
theorem wordsT_mem : ∀ (l cur : List UInt8), ∀ w ∈ wordsT l cur, w.length ≤ cur.length + l.length := by
  intro l
  induction l with
  | nil => intro cur w hw; simp only [wordsT] at hw; split at hw; cases hw; rw [List.mem_singleton.1 hw]; simp
  | cons c r ih =>
    intro cur w hw
    simp only [wordsT] at hw
    split at hw
    · rcases List.mem_append.1 hw with h | h
      · split at h
        · cases h
        · rw [List.mem_singleton.1 h]; simp
      · have := ih [] w h; simp at this ⊢; omega
    · have := ih _ w hw; simp at this ⊢; omega
end Go.Proofs.YtjibkkhgejcjeaaGreatDoor.Lg
