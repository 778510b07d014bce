/- Networks that are drawn are right: links, rising lists. No program. -/
import Derived.Test.YtabelcohkpmpnaaRb
set_option linter.unusedSimpArgs false
set_option linter.unusedVariables false
namespace Go.Proofs.Ytabelcohkpmpnaa.Lg
open Go
def lksB (r : Int) (ls : List Link) : Bool := (List.range ls.length).all (linkAt r ls)
theorem getD_snoc_lt {α : Type} {xs : List α} {x d : α} {j : Nat} (h : j < xs.length) : (xs ++ [x]).getD j d = xs.getD j d := by simp [List.getD, List.getElem?_append_left h]
theorem getD_snoc_eq {α : Type} {xs : List α} {x d : α} : (xs ++ [x]).getD xs.length d = x := by simp [List.getD]
theorem linkP_any {ls : List Link} {a b : Int} (h : linkP ls a b < 0) : ls.any (joinB a b) = false := by
  have := first_any (p := joinB a b) (xs := ls)
  rw [← this]; exact decide_eq_false (by unfold linkP at h; omega)
theorem linkP_mem {ls : List Link} {a b : Int} {l : Link} (hl : l ∈ ls) (h : joinB a b l = true) : 0 ≤ linkP ls a b := by
  have h1 := first_any (p := joinB a b) (xs := ls)
  have h2 : ls.any (joinB a b) = true := List.any_eq_true.2 ⟨l, hl, h⟩
  rw [h2] at h1
  have := of_decide_eq_true h1
  unfold linkP; omega
theorem lksB_snoc {r : Int} {ls : List Link} {l : Link} (h : lksB r ls = true) (ha : routerB r l.a = true) (hb : routerB r l.b = true) (hab : l.a ≠ l.b) (hc : inB l.cost 1 100 = true) (hno : linkP ls l.a l.b < 0) : lksB r (ls ++ [l]) = true := by
  unfold lksB at *
  refine range_all fun j hj => ?_
  rw [List.length_append, List.length_singleton] at hj
  by_cases e : j = ls.length
  · subst e
    unfold linkAt
    rw [getD_snoc_eq, List.take_left, linkP_any hno, ha, hb, hc, decide_eq_false hab]; rfl
  · have hlt : j < ls.length := by omega
    have h1 := List.all_eq_true.1 h j (List.mem_range.2 hlt)
    unfold linkAt at *
    rw [getD_snoc_lt hlt, List.take_append_of_le_length (by omega)]; exact h1
def insK (xs : List Int) (n : Int) : Nat := (xs.takeWhile fun x => decide (x < n)).length
def insO (xs : List Int) (n : Int) : Bool := !(decide (insK xs n < xs.length) && decide (xs.getD (insK xs n) 0 = n))
def insP (xs : List Int) (n : Int) : List Int := if insO xs n then xs.take (insK xs n) ++ [n] ++ xs.drop (insK xs n) else xs
theorem rising_iff {r : Int} {xs : List Int} : risingB r xs = true ↔ (∀ x ∈ xs, 0 ≤ x ∧ x < r) ∧ ∀ i : Nat, i + 1 < xs.length → xs.getD i 0 < xs.getD (i + 1) 0 := by
  unfold risingB
  rw [List.all_eq_true]
  constructor
  · intro h
    have h' : ∀ j, j < xs.length → riseB r xs j = true := fun j hj => h j (List.mem_range.2 hj)
    refine ⟨fun x hx => ?_, fun i hi => ?_⟩
    · obtain ⟨j, hj, rfl⟩ := List.getElem_of_mem hx
      have := h' j hj
      simp only [riseB, routerB, Bool.and_eq_true, decide_eq_true_eq] at this
      have e : xs.getD j 0 = xs[j] := by simp [List.getD, hj]
      omega
    · have := h' (i + 1) hi
      simp only [riseB, Bool.and_eq_true, Bool.or_eq_true, decide_eq_true_eq, Nat.add_sub_cancel] at this
      rcases this.2 with e | e
      · omega
      · exact e
  · rintro ⟨h1, h2⟩ j hj
    have hj := List.mem_range.1 hj
    have := h1 _ (getD_mem 0 hj)
    simp only [riseB, routerB, Bool.and_eq_true, Bool.or_eq_true, decide_eq_true_eq]
    refine ⟨by omega, ?_⟩
    by_cases e : j = 0
    · exact .inl e
    · have := h2 (j - 1) (by omega)
      rw [show j - 1 + 1 = j by omega] at this
      exact .inr this
theorem insK_le (xs : List Int) (n : Int) : insK xs n ≤ xs.length := by
  unfold insK
  exact (List.takeWhile_prefix _).length_le
theorem insK_before {xs : List Int} {n : Int} : ∀ {i : Nat}, i < insK xs n → xs.getD i 0 < n := by
  unfold insK
  induction xs with
  | nil => intro i h; simp at h
  | cons x r ih =>
    intro i h
    by_cases hx : x < n
    · simp only [List.takeWhile_cons, decide_eq_true hx, if_true, List.length_cons] at h
      cases i with
      | zero => simpa using hx
      | succ i => rw [List.getD_cons_succ]; exact ih (by omega)
    · simp [List.takeWhile_cons, decide_eq_false hx] at h
theorem insK_stop {xs : List Int} {n : Int} (h : insK xs n < xs.length) : n ≤ xs.getD (insK xs n) 0 := by
  unfold insK at *
  induction xs with
  | nil => simp at h
  | cons x r ih =>
    by_cases hx : x < n
    · simp only [List.takeWhile_cons, decide_eq_true hx, if_true, List.length_cons, List.getD_cons_succ] at h ⊢
      exact ih (by omega)
    · simp only [List.takeWhile_cons, decide_eq_false hx] at h ⊢
      simp; omega
theorem insK_is {xs : List Int} {n : Int} {k : Nat} (hk : k ≤ xs.length) (h1 : ∀ i, i < k → xs.getD i 0 < n) (h2 : k < xs.length → n ≤ xs.getD k 0) : insK xs n = k := by
  have h3 := insK_le xs n
  rcases Nat.lt_trichotomy (insK xs n) k with h | h | h
  · have := insK_stop (xs := xs) (n := n) (by omega)
    have := h1 _ h
    omega
  · exact h
  · have := insK_before h
    have := h2 (by omega)
    omega
theorem ins_rising {r : Int} {xs : List Int} {n : Int} (h : risingB r xs = true) (hn : 0 ≤ n ∧ n < r) : risingB r (insP xs n) = true := by
  unfold insP
  cases ho : insO xs n with
  | false => exact h
  | true =>
    simp only [if_true]
    have hk := insK_le xs n
    have hst := insK_stop (xs := xs) (n := n)
    have hbe := fun i => insK_before (xs := xs) (n := n) (i := i)
    have hne : insK xs n < xs.length → xs.getD (insK xs n) 0 ≠ n := by
      intro hlt he
      simp only [insO, decide_eq_true hlt, decide_eq_true he] at ho; simp at ho
    generalize insK xs n = k at *
    rw [rising_iff] at h ⊢
    obtain ⟨h1, h2⟩ := h
    refine ⟨fun x hx => ?_, fun i hi => ?_⟩
    · rw [List.mem_append, List.mem_append, List.mem_singleton] at hx
      rcases hx with (hx | rfl) | hx
      · exact h1 x (List.mem_of_mem_take hx)
      · exact hn
      · exact h1 x (List.mem_of_mem_drop hx)
    · have hlen : (xs.take k ++ [n] ++ xs.drop k).length = xs.length + 1 := by simp; omega
      rw [hlen] at hi
      have hget : ∀ j, j < xs.length + 1 → (xs.take k ++ [n] ++ xs.drop k).getD j 0 = if j < k then xs.getD j 0 else if j = k then n else xs.getD (j - 1) 0 := by
        intro j hj
        have hkl : (xs.take k).length = k := by simp; omega
        by_cases c1 : j < k
        · rw [if_pos c1]
          simp only [List.getD, List.append_assoc]
          rw [List.getElem?_append_left (by omega), List.getElem?_take_of_lt c1]
        · rw [if_neg c1]
          by_cases c2 : j = k
          · rw [if_pos c2]
            simp only [List.getD, List.append_assoc]
            rw [List.getElem?_append_right (by omega), hkl, c2]; simp
          · rw [if_neg c2]
            simp only [List.getD]
            rw [List.getElem?_append_right (by simp; omega)]
            simp only [List.length_append, hkl, List.length_singleton, List.getElem?_drop]
            rw [show k + (j - (k + 1)) = j - 1 by omega]
      rw [hget i (by omega), hget (i + 1) (by omega)]
      by_cases c1 : i + 1 < k
      · rw [if_pos (by omega), if_pos c1]; exact h2 i (by omega)
      · by_cases c2 : i + 1 = k
        · rw [if_pos (by omega), if_neg c1, if_pos c2]; exact hbe i (by omega)
        · by_cases c3 : i = k
          · rw [if_neg (by omega), if_pos c3, if_neg c1, if_neg c2, c3, Nat.add_sub_cancel]
            have := hst (by omega); have := hne (by omega); omega
          · rw [if_neg (by omega), if_neg c3, if_neg c1, if_neg c2, Nat.add_sub_cancel]
            have := h2 (i - 1) (by omega)
            rwa [show i - 1 + 1 = i by omega] at this
theorem ins_len (xs : List Int) (n : Int) : (insP xs n).length ≤ xs.length + 1 := by
  unfold insP
  have := insK_le xs n
  split
  · simp; omega
  · omega
theorem joinB_self (l : Link) : joinB l.a l.b l = true := by simp [joinB]
theorem joinB_swap (l : Link) : joinB l.b l.a l = true := by simp [joinB]
theorem lks_ends {r : Int} {ls : List Link} (h : lksB r ls = true) {l : Link} (hl : l ∈ ls) : 0 ≤ l.a ∧ l.a < r ∧ 0 ≤ l.b ∧ l.b < r := by
  obtain ⟨j, hj, rfl⟩ := List.getElem_of_mem hl
  have := List.all_eq_true.1 h j (List.mem_range.2 hj)
  have e : ls.getD j default = ls[j] := by simp [List.getD, hj]
  simp only [linkAt, routerB, e, Bool.and_eq_true, decide_eq_true_eq] at this
  omega
end Go.Proofs.Ytabelcohkpmpnaa.Lg
