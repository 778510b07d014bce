/- What is written of formulas and proofs is read again, plain. No program is in sight here. -/
import Derived.Test.YtlojopaebdnacaaDoorBa
set_option linter.unusedSimpArgs false
set_option linter.unusedVariables false
namespace Go.Proofs.YtlojopaebdnacaaDoor.Lg
open Go Go.Lib
theorem cut_lines {α : Type} {b : UInt8} {f : α → List UInt8} : ∀ {xs : List α}, (∀ x ∈ xs, ∀ c ∈ f x, c ≠ b) → ∀ (r : List UInt8), cutP b (xs.flatMap (fun x => f x ++ [b]) ++ r) = xs.map f ++ cutP b r := by
  intro xs
  induction xs with
  | nil => intro _ r; rfl
  | cons x xs ih =>
    intro h r
    rw [List.flatMap_cons, List.append_assoc, List.append_assoc, List.singleton_append, cutP_app (h x (by simp)), ih (fun y hy => h y (by simp [hy])) r]
    rfl
def textsW (ws : List Wd) : List (List UInt8) := ws.map (·.1)
def clauseL (c : List Int) : List UInt8 := c.flatMap (fun x => itoa x ++ [32]) ++ [48]
theorem clauseT_eq (c : List Int) : clauseT c = clauseL c ++ [10] := by simp [clauseT, clauseL]
theorem clauseL_solid (c : List Int) : ∀ x ∈ clauseL c, x ≠ 10 := by
  intro x hx
  unfold clauseL at hx
  rcases List.mem_append.1 hx with h | h
  · obtain ⟨n, _, h⟩ := List.mem_flatMap.1 h
    rcases List.mem_append.1 h with h | h
    · exact (itoa_solid n x h).2.1
    · rw [List.mem_singleton.1 h]; decide
  · rw [List.mem_singleton.1 h]; decide
theorem clauseL_words (c : List Int) : ∀ i, textsW (wordsGo blF (clauseL c) i []) = c.map itoa ++ [[48]] := by
  induction c with
  | nil => intro i; rfl
  | cons x c ih =>
    intro i
    have e : clauseL (x :: c) = itoa x ++ 32 :: clauseL c := by simp [clauseL]
    rw [e, words_sep (fun y hy => (itoa_solid x y hy).1) (itoa_ne x) rfl]
    have := ih (i + (itoa x).length + 1)
    simp only [textsW, List.map_cons, List.cons_append] at this ⊢
    rw [this]
/-- Texts of words, no places. -/
theorem litsP_app {vars most : Int} : ∀ (a b : List Wd) (s : List (List Int) × List Int), litsP vars most (a ++ b) s = if (litsP vars most a s).1 = 0 then litsP vars most b (litsP vars most a s).2.2 else litsP vars most a s := by
  intro a
  induction a with
  | nil => intro b s; simp [litsP]
  | cons w r ih =>
    intro b s
    rw [List.cons_append]
    simp only [litsP]
    by_cases h : litC vars most s w.1 = 0
    · simp only [if_pos h]; exact ih b _
    · simp only [if_neg h]
theorem itoa_zero : itoa 0 = [48] := by
  unfold itoa
  rw [if_neg (by omega)]
  exact decDigits_small (by omega)
theorem numP_zero : numP [48] = some 0 := by
  rw [← itoa_zero]; exact numP_itoa (n := 0) (by omega) (by omega)
theorem texts_one {ws : List Wd} {t : List UInt8} (h : textsW ws = [t]) : ∃ i, ws = [(t, i)] := by
  match ws, h with
  | [], h => cases h
  | [w], h => exact ⟨w.2, by simp only [textsW, List.map_cons, List.map_nil, List.cons.injEq, and_true] at h; rw [← h]⟩
  | _ :: _ :: _, h => simp [textsW] at h
theorem lits_clause {vars most : Int} (hv : vars ≤ 40) : ∀ (c : List Int) (ws : List Wd) (s1 : List (List Int)) (pre : List Int), textsW ws = c.map itoa ++ [[48]] → (∀ x ∈ c, litOKt vars x) → pre.length + c.length ≤ 12 → (s1.length : Int) < most → litsP vars most ws (s1, pre) = (0, 0, (s1 ++ [pre ++ c], [])) := by
  intro c
  induction c with
  | nil =>
    intro ws s1 pre hw _ _ hm
    obtain ⟨i, rfl⟩ := texts_one hw
    have hc : litC vars most (s1, pre) [48] = 0 := by
      simp only [litC, numP_zero]
      rw [if_neg (by omega)]; rfl
    simp only [litsP, if_pos hc]
    simp only [litN, numP_zero, if_pos, List.append_nil]
  | cons x c ih =>
    intro ws s1 pre hw hx hp hm
    match ws, hw with
    | w :: ws, hw =>
      simp only [textsW, List.map_cons, List.cons_append, List.cons.injEq] at hw
      obtain ⟨x0, x1, x2⟩ := hx x (by simp)
      have hn : numP (itoa x) = some x := numP_itoa (by omega) (by omega)
      have hlen : pre.length + (c.length + 1) ≤ 12 := hp
      have hc : litC vars most (s1, pre) w.1 = 0 := by
        rw [hw.1]; simp only [litC, hn]
        rw [if_neg (by omega), if_neg x0, if_neg (by omega), if_neg (by omega)]
      simp only [litsP, if_pos hc]
      rw [hw.1]; simp only [litN, hn, if_neg x0]
      rw [ih ws s1 (pre ++ [x]) hw.2 (fun y hy => hx y (by simp [hy])) (by simp; omega) hm]
      simp
theorem lits_cls {vars most : Int} (hv : vars ≤ 40) : ∀ (cls : List (List Int)) (ls : List (List Wd × Nat)) (s1 : List (List Int)), ls.map (fun l => textsW l.1) = cls.map (fun c => c.map itoa ++ [[48]]) → (∀ c ∈ cls, c.length ≤ 12 ∧ ∀ x ∈ c, litOKt vars x) → (s1.length : Int) + cls.length ≤ most →
    litsP vars most (ls.flatMap (·.1)) (s1, []) = (0, 0, (s1 ++ cls, [])) := by
  intro cls
  induction cls with
  | nil =>
    intro ls s1 hl _ _
    have : ls = [] := by simpa using hl
    subst this
    simp [litsP]
  | cons c cls ih =>
    intro ls s1 hl hc hm
    match ls, hl with
    | l :: ls, hl =>
      simp only [List.map_cons, List.cons.injEq] at hl
      have hlen : (s1.length : Int) + (cls.length + 1) ≤ most := by simpa using hm
      obtain ⟨c1, c2⟩ := hc c (by simp)
      rw [List.flatMap_cons, litsP_app, lits_clause hv c l.1 s1 [] hl.1 c2 (by simpa using c1) (by omega)]
      simp only [if_pos]
      rw [ih ls (s1 ++ [[] ++ c]) hl.2 (fun d hd => hc d (by simp [hd])) (by simp; omega)]
      simp
/-! The lines of what is written -/
theorem saysF_of {ws : List Wd} {t : List UInt8} {r : List (List UInt8)} (h : textsW ws = t :: r) (ht : t ≠ [99]) : saysF ws = true := by
  match ws, h with
  | w :: ws, h =>
    simp only [textsW, List.map_cons, List.cons.injEq] at h
    simp [saysF, h.1, ht]
theorem linesP_hit {i : Nat} {l : List UInt8} {r : List (List UInt8)} (h : saysF (wordsP blF l i) = true) : linesP i (l :: r) = (wordsP blF l i, i + l.length) :: linesP (i + l.length + 1) r := by
  simp [linesP, h]
theorem linesP_miss {i : Nat} {l : List UInt8} {r : List (List UInt8)} (h : saysF (wordsP blF l i) = false) : linesP i (l :: r) = linesP (i + l.length + 1) r := by
  simp [linesP, h]
theorem lines_blank (i : Nat) (r : List (List UInt8)) : linesP i ([] :: r) = linesP (i + 1) r := by
  rw [linesP_miss rfl]; simp
theorem itoa_not_c (n : Int) : itoa n ≠ [99] := by
  intro h
  have := itoa_dig n 99 (by rw [h]; simp)
  rcases this with h | h <;> exact absurd h (by decide)
theorem itoa_not_d (n : Int) : itoa n ≠ [100] := by
  intro h
  have := itoa_dig n 100 (by rw [h]; simp)
  rcases this with h | h <;> exact absurd h (by decide)
theorem lines_texts {α : Type} {f : α → List UInt8} {g : α → List (List UInt8)} (hw : ∀ x i, textsW (wordsP blF (f x) i) = g x) (hs : ∀ x, ∃ t r, g x = t :: r ∧ t ≠ [99]) (tail : List (List UInt8)) (ht : ∀ i, linesP i tail = []) :
    ∀ (xs : List α) (i : Nat), (linesP i (xs.map f ++ tail)).map (fun l => textsW l.1) = xs.map g := by
  intro xs
  induction xs with
  | nil => intro i; simp [ht]
  | cons x xs ih =>
    intro i
    obtain ⟨t, r, h1, h2⟩ := hs x
    rw [List.map_cons, List.cons_append, linesP_hit (saysF_of ((hw x i).trans h1) h2), List.map_cons, List.map_cons, ih]
    simp only [hw]
theorem clause_first (c : List Int) : ∃ t r, c.map itoa ++ [[48]] = t :: r ∧ t ≠ [99] := by
  cases c with
  | nil => exact ⟨[48], [], rfl, by decide⟩
  | cons x c => exact ⟨_, _, rfl, itoa_not_c x⟩
theorem blank_tail : ∀ i, linesP i [[], []] = [] := fun i => by rw [lines_blank, lines_blank]; rfl
theorem blank_tail1 : ∀ i, linesP i [[]] = [] := fun i => by rw [lines_blank]; rfl
def headT (vars : Int) (n : Nat) : List UInt8 := [112, 32, 99, 110, 102, 32] ++ itoa vars ++ [32] ++ itoa n
theorem headT_words (vars : Int) (n i : Nat) : textsW (wordsP blF (headT vars n) i) = [[112], [99, 110, 102], itoa vars, itoa n] := by
  unfold wordsP
  have e : headT vars n = [112] ++ 32 :: ([99, 110, 102] ++ 32 :: (itoa vars ++ 32 :: itoa n)) := by simp [headT]
  rw [e, words_sep (by intro c hc; rw [List.mem_singleton.1 hc]; rfl) (by simp) rfl, words_sep (by intro c hc; simp only [List.mem_cons, List.not_mem_nil, or_false] at hc; rcases hc with rfl | rfl | rfl <;> rfl) (by simp) rfl,
    words_sep (fun c hc => (itoa_solid vars c hc).1) (itoa_ne _) rfl, words_end (fun c hc => (itoa_solid n c hc).1) (itoa_ne _)]
  rfl
theorem headT_solid (vars : Int) (n : Nat) : ∀ c ∈ headT vars n, c ≠ 10 := by
  intro c hc
  simp only [headT, List.mem_append, List.mem_cons, List.not_mem_nil, or_false] at hc
  rcases hc with ((h | h) | h) | h
  · rcases h with rfl | rfl | rfl | rfl | rfl | rfl <;> decide
  · exact (itoa_solid vars c h).2.1
  · subst h; decide
  · exact (itoa_solid n c h).2.1
theorem texts_at {ws : List Wd} {ts : List (List UInt8)} (h : textsW ws = ts) (i : Nat) : textW ws i = ts.getD i [] := by
  subst h
  unfold textW textsW
  simp only [List.getD, List.getElem?_map]
  cases ws[i]? <;> rfl
theorem head_ok {vars : Int} {n : Nat} {ws : List Wd} (h : textsW ws = [[112], [99, 110, 102], itoa vars, itoa n]) (hv : 0 ≤ vars ∧ vars ≤ 40) (hn : n ≤ 300) : headC ws = (0, 0) ∧ varsW ws = vars ∧ mostW ws = n := by
  have n2 : numP (itoa vars) = some vars := numP_itoa (by omega) (by omega)
  have n3 : numP (itoa (n : Int)) = some (n : Int) := numP_itoa (by omega) (by omega)
  have t2 : textW ws 2 = itoa vars := texts_at h 2
  have t3 : textW ws 3 = itoa n := texts_at h 3
  have hl : ws.length = 4 := by have := congrArg List.length h; simpa [textsW] using this
  refine ⟨?_, by simp [varsW, t2, n2], by simp [mostW, t3, n3]⟩
  unfold headC
  rw [texts_at h 0, texts_at h 1, t2, t3, n2, n3]
  rw [if_neg (by simp [hl]), if_neg (by simp; omega), if_neg (by simp), if_neg (by simp; omega), if_neg (by simp; omega)]
def remark : List UInt8 := [99, 32, 97, 32, 114, 101, 109, 97, 114, 107]
/-- A formula's text is read as the formula. -/
theorem dim_read {vars : Int} {cls : List (List Int)} (hv : 0 ≤ vars ∧ vars ≤ 40) (hn : cls.length ≤ 300) (hc : ∀ c ∈ cls, c.length ≤ 12 ∧ ∀ x ∈ c, litOKt vars x) (hl : (remark ++ [10] ++ dimT vars cls ++ [10]).length ≤ 65536) : dimP (remark ++ [10] ++ dimT vars cls ++ [10]) = ⟨vars, cls, 0, 0⟩ := by
  unfold dimP
  rw [if_neg (by omega)]
  generalize (remark ++ [10] ++ dimT vars cls ++ [10]).length = N
  have e : remark ++ [10] ++ dimT vars cls ++ [10] = remark ++ 10 :: (headT vars cls.length ++ 10 :: (cls.flatMap (fun c => clauseL c ++ [10]) ++ [10])) := by
    have : cls.flatMap clauseT = cls.flatMap (fun c => clauseL c ++ [10]) := by congr 1; funext c; exact clauseT_eq c
    simp [dimT, headT, this]
  rw [e, cutP_app (by decide), cutP_app (headT_solid _ _), cut_lines (fun c _ => clauseL_solid c)]
  have e2 : cutP 10 [10] = [[], []] := rfl
  rw [e2, linesP_miss (by rfl), linesP_hit (saysF_of (headT_words _ _ _) (by decide))]
  obtain ⟨h1, h2, h3⟩ := head_ok (headT_words vars cls.length (0 + remark.length + 1)) hv hn
  simp only [dimL, h1, h2, h3, ne_eq, not_true_eq_false, if_false]
  rw [lits_cls hv.2 cls _ [] (lines_texts (fun x i => clauseL_words x i) clause_first _ blank_tail cls _) hc (by simp)]
  simp [dimEnd]
/-! Proofs -/
def stepL (s : Bool × List Int) : List UInt8 := (if s.1 then [100, 32] else []) ++ clauseL s.2
def stepX (s : Bool × List Int) : List (List UInt8) := (if s.1 then [[100]] else []) ++ (s.2.map itoa ++ [[48]])
theorem stepL_words (s : Bool × List Int) (i : Nat) : textsW (wordsP blF (stepL s) i) = stepX s := by
  obtain ⟨d, c⟩ := s
  cases d with
  | false => exact clauseL_words c i
  | true =>
    have e : stepL (true, c) = [100] ++ 32 :: clauseL c := rfl
    unfold wordsP
    rw [e, words_sep (by intro c hc; rw [List.mem_singleton.1 hc]; rfl) (by simp) rfl]
    have := clauseL_words c (i + [(100 : UInt8)].length + 1)
    simp only [textsW, List.map_cons] at this ⊢
    rw [this]; rfl
theorem stepX_first (s : Bool × List Int) : ∃ t r, stepX s = t :: r ∧ t ≠ [99] := by
  obtain ⟨d, c⟩ := s
  cases d with
  | true => exact ⟨_, _, rfl, by decide⟩
  | false => exact clause_first c
theorem stepL_solid (s : Bool × List Int) : ∀ x ∈ stepL s, x ≠ 10 := by
  intro x hx
  unfold stepL at hx
  rcases List.mem_append.1 hx with h | h
  · cases hd : s.1 <;> rw [hd] at h
    · simp at h
    · simp at h; rcases h with rfl | rfl <;> decide
  · exact clauseL_solid _ x h
theorem stepGo_ok : ∀ (c : List Int) (ws : List Wd) (pre : List Int) (e : Int), textsW ws = c.map itoa ++ [[48]] → (∀ x ∈ c, litOKt 40 x) → pre.length + c.length ≤ 12 → stepGo ws pre e = (pre ++ c, 0, 0) := by
  intro c
  induction c with
  | nil =>
    intro ws pre e hw _ _
    obtain ⟨i, rfl⟩ := texts_one hw
    simp only [stepGo, numP_zero]; simp
  | cons x c ih =>
    intro ws pre e hw hx hp
    match ws, hw with
    | w :: ws, hw =>
      simp only [textsW, List.map_cons, List.cons_append, List.cons.injEq] at hw
      obtain ⟨x0, x1, x2⟩ := hx x (by simp)
      have hn : numP (itoa x) = some x := numP_itoa (by omega) (by omega)
      have hlen : pre.length + (c.length + 1) ≤ 12 := hp
      simp only [stepGo, hw.1, hn]
      rw [if_neg x0, if_neg (by omega), if_neg (by omega), ih ws (pre ++ [x]) e hw.2 (fun y hy => hx y (by simp [hy])) (by simp; omega)]
      simp
theorem step_ok {s : Bool × List Int} {ws : List Wd} (e : Int) (hw : textsW ws = stepX s) (hx : ∀ x ∈ s.2, litOKt 40 x) (hp : s.2.length ≤ 12) : delW ws = s.1 ∧ stepGo (restW ws) [] e = (s.2, 0, 0) := by
  obtain ⟨d, c⟩ := s
  have h0 := texts_at hw 0
  cases d with
  | true =>
    have hd : delW ws = true := by unfold delW; rw [h0]; rfl
    refine ⟨hd, ?_⟩
    unfold restW; rw [if_pos hd]
    refine stepGo_ok c (ws.drop 1) [] e ?_ hx (by simpa using hp)
    unfold textsW at hw ⊢
    rw [List.map_drop, hw]; rfl
  | false =>
    have hd : delW ws = false := by
      unfold delW; rw [h0]
      cases c with
      | nil => rfl
      | cons x c =>
        have : itoa x ≠ [100] := itoa_not_d x
        simpa [stepX] using this
    refine ⟨hd, ?_⟩
    unfold restW; rw [if_neg (by rw [hd]; simp)]
    exact stepGo_ok c ws [] e hw hx (by simpa using hp)
theorem proofGo_ok : ∀ (st : List (Bool × List Int)) (ls : List (List Wd × Nat)) (acc : List (Bool × List Int)), ls.map (fun l => textsW l.1) = st.map stepX → (∀ s ∈ st, s.2.length ≤ 12 ∧ ∀ x ∈ s.2, litOKt 40 x) → acc.length + st.length ≤ 200 → proofGo ls acc = (acc ++ st, 0, 0) := by
  intro st
  induction st with
  | nil =>
    intro ls acc hl _ _
    have : ls = [] := by simpa using hl
    subst this
    simp [proofGo]
  | cons s st ih =>
    intro ls acc hl hc hm
    match ls, hl with
    | l :: ls, hl =>
      simp only [List.map_cons, List.cons.injEq] at hl
      have hlen : acc.length + (st.length + 1) ≤ 200 := hm
      obtain ⟨c1, c2⟩ := hc s (by simp)
      obtain ⟨h1, h2⟩ := step_ok l.2 hl.1 c2 c1
      simp only [proofGo, h1, h2]
      rw [if_neg (by simp), if_neg (by omega), ih ls (acc ++ [(s.1, s.2)]) hl.2 (fun d hd => hc d (by simp [hd])) (by simp; omega)]
      simp
theorem proof_read {st : List (Bool × List Int)} (h : st.length ≤ 200) (hc : ∀ s ∈ st, s.2.length ≤ 12 ∧ ∀ x ∈ s.2, litOKt 40 x) (hl : (proofT st).length ≤ 65536) : proofP (proofT st) = (st, 0, 0) := by
  unfold proofP
  rw [if_neg (by omega)]
  have e : proofT st = st.flatMap (fun s => stepL s ++ [10]) ++ [] := by
    have : ∀ s, stepT s = stepL s ++ [10] := fun s => by simp [stepT, stepL, clauseT_eq]
    unfold proofT
    rw [List.append_nil]; congr 1; funext s; exact this s
  rw [e, cut_lines (fun s _ => stepL_solid s)]
  have e3 : cutP 10 [] = [[]] := rfl
  rw [e3]
  have := proofGo_ok st _ [] (lines_texts (fun s i => stepL_words s i) stepX_first _ blank_tail1 st 0) hc (by simpa using h)
  simpa using this
theorem clauseT_len {c : List Int} (h : c.length ≤ 12) (hx : ∀ x ∈ c, litOKt 40 x) : (clauseT c).length ≤ 110 := by
  have : ∀ c : List Int, (∀ x ∈ c, litOKt 40 x) → (c.flatMap (fun x => itoa x ++ [32])).length ≤ 9 * c.length := by
    intro c
    induction c with
    | nil => intro _; simp
    | cons x c ih =>
      intro hx
      obtain ⟨_, x1, x2⟩ := hx x (by simp)
      have h1 := itoa_len (n := x) (by omega) (by omega)
      have h2 := ih fun y hy => hx y (by simp [hy])
      rw [List.flatMap_cons, List.length_append, List.length_append, List.length_singleton, List.length_cons]
      omega
  have := this c hx
  unfold clauseT
  rw [List.length_append]
  have : ([48, 10] : List UInt8).length = 2 := rfl
  omega
theorem cls_len {vars : Int} (hv : vars ≤ 40) : ∀ {cls : List (List Int)}, (∀ c ∈ cls, c.length ≤ 12 ∧ ∀ x ∈ c, litOKt vars x) → (cls.flatMap clauseT).length ≤ 110 * cls.length := by
  intro cls
  induction cls with
  | nil => intro _; simp
  | cons c cls ih =>
    intro h
    obtain ⟨h1, h2⟩ := h c (by simp)
    have h3 := clauseT_len h1 fun x hx => by obtain ⟨a, b, d⟩ := h2 x hx; exact ⟨a, by omega, by omega⟩
    have := ih fun d hd => h d (by simp [hd])
    rw [List.flatMap_cons, List.length_append, List.length_cons]; omega
end Go.Proofs.YtlojopaebdnacaaDoor.Lg
