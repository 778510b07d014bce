/- Words of lines, and texts parted, by the program and by the reference. -/
import Derived.Test.YtjibkkhgejcjeaaGreatDoorBc
import Derived.Test.YtjibkkhgejcjeaaGreatDoorKn3
set_option linter.unusedSimpArgs false
set_option linter.unusedVariables false
namespace Go.Proofs.YtjibkkhgejcjeaaGreatDoor.Lg
open Go Go.Lib
attribute [local irreducible] SRun DS DRun
variable {Γ : St} {σ σ0 : St}
def wdV (w : Wd) : V := .agg [.str w.1, .int .i64 (w.2 : Int)]
def wdsV (ws : List Wd) : List V := ws.map wdV
theorem wdsV_len (ws : List Wd) : (wdsV ws).length = ws.length := by simp [wdsV]
theorem wds_ok (ws : List Wd) : ∀ y ∈ wdsV ws, y.cells.length = 2 ∧ ∀ c ∈ y.cells, c.one = true := by
  intro y hy; obtain ⟨w, _, rfl⟩ := List.mem_map.1 hy; simp [wdV, V.cells, V.one]
theorem wds_app (ws : List Wd) (w : Wd) : wdsV ws ++ [wdV w] = wdsV (ws ++ [w]) := by simp [wdsV]
theorem wordsGo_len {bl : UInt8 → Bool} : ∀ (l : List UInt8) (i : Nat) (cur : List UInt8), (wordsGo bl l i cur).length ≤ l.length + 1 := by
  intro l
  induction l with
  | nil => intro i cur; simp only [wordsGo, flushW]; split <;> simp
  | cons c r ih =>
    intro i cur
    simp only [wordsGo]
    split
    · have := ih (i + 1) []
      rw [List.length_append]
      have hf : (flushW cur i).length ≤ 1 := by unfold flushW; split <;> simp
      rw [List.length_cons]; omega
    · have := ih (i + 1) (cur ++ [c])
      rw [List.length_cons]; omega
theorem drop_cons0 {l : List UInt8} {i : Nat} (h : i < l.length) : l.drop i = l.getD i 0 :: l.drop (i + 1) := drop_cons 0 h
theorem cur_snoc {l : List UInt8} {i j : Nat} (hi : i ≤ j) (h : j < l.length) : (l.drop i).take (j - i) ++ [l.getD j 0] = (l.drop i).take (j + 1 - i) := by
  rw [show j + 1 - i = (j - i) + 1 by omega, take_succ 0 (by rw [List.length_drop]; omega)]
  congr 2
  simp only [List.getD, List.getElem?_drop]
  rw [show i + (j - i) = j by omega]
theorem cur_ne {l : List UInt8} {i j : Nat} (hi : i < j) (h : j ≤ l.length) : (l.drop i).take (j - i) ≠ [] := by
  intro e
  have := congrArg List.length e
  simp at this; omega
theorem cur_len {l : List UInt8} {i j : Nat} (hi : i ≤ j) (h : j ≤ l.length) : ((l.drop i).take (j - i)).length = j - i := by
  simp; omega
theorem wordsIn_ok {line bs : List UInt8} {p : Nat} (hl : line.length ≤ 1000000000) (hp : p ≤ 1000000000) : Ret Tryz.prog Γ 81 [.str line, .int .i64 (p : Int), .str bs] σ (.isl false 2 (wdsV (wordsP (fun c => decide (0 ≤ indexByte bs c)) line p))) σ := by
  generalize hbl : (fun c => decide (0 ≤ indexByte bs c)) = bl
  have hblc : ∀ c, bl c = decide (0 ≤ indexByte bs c) := fun c => by rw [← hbl]
  generalize hW : wordsP bl line p = Ws
  have hWl : Ws.length ≤ line.length + 1 := by rw [← hW]; exact wordsGo_len _ _ _
  unfold wordsP at hW
  refine ret_of c81_ok rfl ?_
  simp (disch := omega) only [c81, go_sem]
  refine W_loopC (α := Nat × List Wd × V × St) (fun a => a.1 ≤ line.length ∧ OwnL σ 2 (wdsV a.2.1) a.2.2.1 a.2.2.2 ∧ a.2.1 ++ wordsGo bl (line.drop a.1) (p + a.1) [] = Ws) (fun a => [(0, .str line), (1, .int .i64 (p : Int)), (2, .str bs), (7, a.2.2.1), (8, .int .i64 (a.1 : Nat))]) (fun a => a.2.2.2) (fun a => line.length - a.1) (0, [], .isl true 0 [], σ) ⟨by simp, OwnL.nil _ 0, by simpa using hW⟩ (by simp (disch := omega) only [subT, Int.natCast_add, Int.cast_ofNat_Int, go_sem] <;> (repeat' apply And.intro) <;> first | rfl | (congr 1; omega) | assumption) rfl ?_
  rintro ⟨i, acc, r, s⟩ ⟨hi, ho, hw⟩ ih
  dsimp only at hi ho hw
  simp (disch := omega) only [go_sem]
  first | refine iteW_dec (fun h1 => ?_) (fun h1 => ?_) | refine iteW_of (fun h1 => ?_) (fun h1 => ?_)
  · have hi' : i < line.length := by omega
    rw [drop_cons0 hi'] at hw
    simp only [wordsGo] at hw
    simp (disch := omega) only [go_sem]
    refine SRun.callR IndexByte_ok ⟨[], rfl, rfl⟩ rfl ?_
    generalize hc : line.getD i 0 = c at *
    simp (disch := omega) only [go_sem]
    by_cases hb : 0 ≤ indexByte bs c
    · have db : decide (indexByte bs c ≥ 0) = true := decide_eq_true hb
      simp (disch := omega) only [db, go_sem]
      rw [if_pos (by rw [hblc]; exact decide_eq_true hb)] at hw
      exact ih (i + 1, acc, r, s) _ _ ⟨by simp only; omega, ho, by simpa [flushW, Nat.add_assoc] using hw⟩ (by simp only; omega) (by simp (disch := omega) only [subT, Int.natCast_add, Int.cast_ofNat_Int, go_sem] <;> (repeat' apply And.intro) <;> first | rfl | (congr 1; omega) | assumption) rfl
    · have db : decide (indexByte bs c ≥ 0) = false := decide_eq_false (by omega)
      have hbc : ¬ bl c = true := by rw [hblc]; simpa using hb
      simp (disch := omega) only [db, go_sem]
      rw [if_neg hbc] at hw
      refine W_loopC (α := Nat) (fun j => i ≤ j ∧ j ≤ line.length ∧ acc ++ wordsGo bl (line.drop j) (p + j) ((line.drop i).take (j - i)) = Ws) (fun j => [(0, .str line), (1, .int .i64 (p : Int)), (2, .str bs), (7, r), (8, .int .i64 (i : Nat)), (9, .int .i64 (j : Nat))]) (fun _ => s) (fun j => line.length - j) i ⟨by omega, by omega, by rw [Nat.sub_self, List.take_zero, drop_cons0 hi', hc]; simp only [wordsGo]; rw [if_neg hbc]; exact hw⟩ (by simp (disch := omega) only [subT, Int.natCast_add, Int.cast_ofNat_Int, go_sem] <;> (repeat' apply And.intro) <;> first | rfl | (congr 1; omega) | assumption) rfl ?_
      rintro j ⟨hij, hjl, hw2⟩ ih2
      have fin : (j < line.length → bl (line.getD j 0) = true) → i < j → acc ++ ((line.drop i).take (j - i), p + i) :: wordsGo bl (line.drop j) (p + j) [] = Ws := fun hstop hlt => by
        rw [← hw2]
        congr 1
        by_cases hj : j < line.length
        · rw [drop_cons0 hj]
          simp only [wordsGo]
          rw [if_pos (hstop hj), if_pos (hstop hj)]
          simp only [flushW, cur_ne hlt hjl, if_false, if_pos, List.nil_append, cur_len hij hjl]
          rw [show p + j - (j - i) = p + i by omega]; rfl
        · have : line.drop j = [] := List.drop_eq_nil_of_le (by omega)
          rw [this]
          simp only [wordsGo, flushW, cur_ne hlt hjl, if_false, if_pos, cur_len hij hjl]
          rw [show p + j - (j - i) = p + i by omega]
      have hjn : ((j : Int) - (i : Int)).toNat = j - i := by omega
      have hpi : (p : Int) + (i : Int) = ((p + i : Nat) : Int) := by omega
      have stop : (j < line.length → bl (line.getD j 0) = true) → i < j := fun hstop => by
        rcases Nat.lt_or_ge i j with h | h
        · exact h
        · obtain rfl : i = j := by omega
          have := hstop hi'
          rw [hc] at this
          exact absurd this hbc
      by_cases hj : j < line.length
      · have dj : decide ((j : Int) < line.length) = true := decide_eq_true (by omega)
        simp (disch := omega) only [dj, go_sem]
        refine SRun.callR IndexByte_ok ⟨[], rfl, rfl⟩ rfl ?_
        generalize hcj : line.getD j 0 = cj at *
        simp (disch := omega) only [go_sem]
        by_cases hb2 : 0 ≤ indexByte bs cj
        · have db2 : decide (indexByte bs cj < 0) = false := decide_eq_false (by omega)
          have hst : j < line.length → bl cj = true := fun _ => by rw [hblc]; exact decide_eq_true hb2
          have hlt := stop hst
          have hf := fin hst hlt
          simp (disch := omega) only [db2, go_sem]
          refine SRun.appL ho (ex := true) (ys := [wdV ((line.drop i).take (j - i), p + i)]) (by
            show V.isl true 2 [V.agg [V.str (List.take ((j : Int) - i).toNat (List.drop i line)), V.int IntKind.i64 ((p : Int) + i)]] = _
            rw [hjn, hpi]; rfl) (wds_ok [_]) (by rw [wdsV_len]; have := congrArg List.length hw2; rw [List.length_append] at this; simp; omega) ?_
          intro r7 s7 ho7
          rw [wds_app] at ho7
          simp (disch := omega) only [go_sem]
          exact ih (j, _, r7, s7) _ _ ⟨hjl, ho7, by simpa using hf⟩ (by simp only; omega) (by simp (disch := omega) only [subT, Int.natCast_add, Int.cast_ofNat_Int, go_sem] <;> (repeat' apply And.intro) <;> first | rfl | (congr 1; omega) | assumption) rfl
        · have db2 : decide (indexByte bs cj < 0) = true := decide_eq_true (by omega)
          simp (disch := omega) only [db2, go_sem]
          refine ih2 (j + 1) _ _ ⟨by omega, by omega, ?_⟩ (by omega) (by simp (disch := omega) only [subT, Int.natCast_add, Int.cast_ofNat_Int, go_sem] <;> (repeat' apply And.intro) <;> first | rfl | (congr 1; omega) | assumption) rfl
          rw [drop_cons0 hj, hcj] at hw2
          simp only [wordsGo] at hw2
          rw [if_neg (by rw [hblc]; simpa using hb2)] at hw2
          rw [← cur_snoc hij hj, hcj, ← Nat.add_assoc]; exact hw2
      · have dj : decide ((j : Int) < line.length) = false := decide_eq_false (by omega)
        have hst : j < line.length → bl (line.getD j 0) = true := fun h => absurd h hj
        have hlt := stop hst
        have hf := fin hst hlt
        simp (disch := omega) only [dj, go_sem]
        refine SRun.appL ho (ex := true) (ys := [wdV ((line.drop i).take (j - i), p + i)]) (by
            show V.isl true 2 [V.agg [V.str (List.take ((j : Int) - i).toNat (List.drop i line)), V.int IntKind.i64 ((p : Int) + i)]] = _
            rw [hjn, hpi]; rfl) (wds_ok [_]) (by rw [wdsV_len]; have := congrArg List.length hw2; rw [List.length_append] at this; simp; omega) ?_
        intro r7 s7 ho7
        rw [wds_app] at ho7
        simp (disch := omega) only [go_sem]
        exact ih (j, _, r7, s7) _ _ ⟨hjl, ho7, by simpa using hf⟩ (by simp only; omega) (by simp (disch := omega) only [subT, Int.natCast_add, Int.cast_ofNat_Int, go_sem] <;> (repeat' apply And.intro) <;> first | rfl | (congr 1; omega) | assumption) rfl
  · obtain rfl : i = line.length := by omega
    simp (disch := omega) only [go_sem]
    have e : acc = Ws := by
      rw [List.drop_length] at hw
      simpa [wordsGo, flushW] using hw
    subst e
    exact W_retC c81_ok rfl ho.conv ⟨rfl, rfl⟩
end Go.Proofs.YtjibkkhgejcjeaaGreatDoor.Lg
