/- Circuits as formulas: the plain law. -/
import Derived.Test.YtlidjjjpjndneaaLn
import Derived.Test.YtlidjjjpjndneaaEp
set_option linter.unusedSimpArgs false
set_option linter.unusedVariables false
namespace Go.Proofs.Ytlidjjjpjndneaa.Lg
open Go
/-- A literal of a circuit, as one of its formula. -/
def nodeL (x : Int) : Int := if x % 2 = 1 then -(x / 2) else x / 2
def tsGate (inp : Int) (i : Nat) (g : Int × Int) : List (List Int) := [[-(1 + inp + i), nodeL g.1], [-(1 + inp + i), nodeL g.2], [1 + inp + i, -nodeL g.1, -nodeL g.2]]
/-- The clauses of the first gates. -/
def tsCls (inp : Int) (gs : List (Int × Int)) (n : Nat) : List (List Int) := (List.range n).flatMap fun i => tsGate inp i (gs.getD i default)
def tsEnd (x : Int) : List (List Int) := if x = 0 then [[]] else if x = 1 then [] else [[nodeL x]]
def tsP (inp : Int) (gs : List (Int × Int)) (x : Int) : List (List Int) := tsCls inp gs gs.length ++ tsEnd x
theorem tsCls_succ (inp : Int) (gs : List (Int × Int)) (n : Nat) : tsCls inp gs (n + 1) = tsCls inp gs n ++ tsGate inp n (gs.getD n default) := by
  simp [tsCls, List.range_succ, List.flatMap_append]
theorem tsCls_len (inp : Int) (gs : List (Int × Int)) (n : Nat) : (tsCls inp gs n).length = 3 * n := by
  induction n with
  | zero => rfl
  | succ n ih => rw [tsCls_succ, List.length_append, ih]; simp [tsGate]; omega
theorem tsEnd_len (x : Int) : (tsEnd x).length ≤ 1 := by unfold tsEnd; (repeat' split) <;> simp
section
variable {inp : Int} {gs : List (Int × Int)} {x : Int} {vs bs : List Bool}
theorem nodeL_ok {z N : Int} (h1 : 2 ≤ z) (h2 : z < 2 * (1 + N)) : nodeL z ≠ 0 ∧ -N ≤ nodeL z ∧ nodeL z ≤ N := by unfold nodeL; split <;> omega
/-- The formula is right. -/
theorem ts_lits (hi : 0 ≤ inp) (hg : GatesOK inp gs) (hx : LitOK inp gs x) : ∀ c ∈ tsP inp gs x, c.length ≤ 3 ∧ ∀ y ∈ c, litOK (inp + gs.length) y := by
  intro c hc
  unfold LitOK at hx
  unfold tsP at hc
  rcases List.mem_append.1 hc with hc | hc
  · unfold tsCls at hc
    obtain ⟨i, hi2, hc⟩ := List.mem_flatMap.1 hc
    rw [List.mem_range] at hi2
    obtain ⟨q1, q2, q3, _, _⟩ := hg i hi2
    have k1 := nodeL_ok (z := (gs.getD i default).1) (N := inp + gs.length) q1 (by omega)
    have k2 := nodeL_ok (z := (gs.getD i default).2) (N := inp + gs.length) (by omega) (by omega)
    simp only [tsGate, List.mem_cons, List.not_mem_nil, or_false] at hc
    rcases hc with rfl | rfl | rfl
    · refine ⟨by simp, fun y hy => ?_⟩
      simp only [List.mem_cons, List.not_mem_nil, or_false] at hy
      unfold litOK
      rcases hy with rfl | rfl <;> omega
    · refine ⟨by simp, fun y hy => ?_⟩
      simp only [List.mem_cons, List.not_mem_nil, or_false] at hy
      unfold litOK
      rcases hy with rfl | rfl <;> omega
    · refine ⟨by simp, fun y hy => ?_⟩
      simp only [List.mem_cons, List.not_mem_nil, or_false] at hy
      unfold litOK
      rcases hy with rfl | rfl | rfl <;> omega
  · unfold tsEnd at hc
    split at hc
    · simp only [List.mem_cons, List.not_mem_nil, or_false] at hc
      subst hc; exact ⟨by simp, fun y hy => by cases hy⟩
    split at hc
    · cases hc
    · simp only [List.mem_cons, List.not_mem_nil, or_false] at hc
      subst hc
      have k := nodeL_ok (z := x) (N := inp + gs.length) (by omega) (by omega)
      refine ⟨by simp, fun y hy => ?_⟩
      simp only [List.mem_cons, List.not_mem_nil, or_false] at hy
      subst hy
      exact k
theorem ts_cnfB (hi : 0 ≤ inp) (hg : GatesOK inp gs) (hx : LitOK inp gs x) : cnfB (inp + gs.length) (tsP inp gs x) = decide (inp + gs.length ≤ 40) := by
  by_cases h : inp + gs.length ≤ 40
  · rw [decide_eq_true h]
    have h1 := ts_lits hi hg hx
    have h2 := tsCls_len inp gs gs.length
    have h3 := tsEnd_len x
    simp only [cnfB, Bool.and_eq_true, decide_eq_true_eq, List.all_eq_true]
    refine ⟨⟨⟨by omega, h⟩, by unfold tsP; rw [List.length_append]; omega⟩, fun c hc => ?_⟩
    simp only [clauseB, Bool.and_eq_true, decide_eq_true_eq, List.all_eq_true]
    exact ⟨by have := (h1 c hc).1; omega, fun y hy => litB_iff.2 ((h1 c hc).2 y hy)⟩
  · rw [decide_eq_false h]
    simp [cnfB, h]
/-! What it says of values -/
theorem litV_node (bs : List Bool) {z : Int} (h : 2 ≤ z) : litV bs (nodeL z) = valP (false :: bs) z := by
  unfold litV valP nodeL
  obtain ⟨k, hk⟩ : ∃ k : Nat, z / 2 = (k : Int) + 1 := ⟨(z / 2 - 1).toNat, by omega⟩
  rw [hk]
  have e2 : (false :: bs).getD ((k : Int) + 1).toNat false = bs.getD k false := by rw [show ((k : Int) + 1).toNat = k + 1 by omega]; rfl
  rw [e2]
  by_cases h1 : z % 2 = 1
  · rw [if_pos h1, decide_eq_true h1, show (-((k : Int) + 1)).natAbs - 1 = k by omega, decide_eq_false (show ¬ -((k : Int) + 1) > 0 by omega)]
    cases bs.getD k false <;> rfl
  · rw [if_neg h1, decide_eq_false h1, show ((k : Int) + 1).natAbs - 1 = k by omega, decide_eq_true (show (k : Int) + 1 > 0 by omega)]
    cases bs.getD k false <;> rfl
theorem gate_eval (hi : 0 ≤ inp) (bs : List Bool) {i : Nat} {g : Int × Int} (h1 : 2 ≤ g.1) (h2 : 2 ≤ g.2) : evalB (tsGate inp i g) bs = (bs.getD (inp.toNat + i) false == (valP (false :: bs) g.1 && valP (false :: bs) g.2)) := by
  have e1 : litV bs (1 + inp + i) = bs.getD (inp.toNat + i) false := by
    rw [show (1 + inp + (i : Int)) = ((inp.toNat + i : Nat) : Int) + 1 by omega, litV_pos]
  have k1 := nodeL_ok (z := g.1) (N := g.1) h1 (by omega)
  have k2 := nodeL_ok (z := g.2) (N := g.2) h2 (by omega)
  simp only [evalB, tsGate, List.all_cons, List.all_nil, List.any_cons, List.any_nil, Bool.or_false, Bool.and_true]
  rw [litV_neg (x := 1 + inp + i) (by omega), litV_neg k1.1, litV_neg k2.1, e1, litV_node bs h1, litV_node bs h2]
  cases bs.getD (inp.toNat + i) false <;> cases valP (false :: bs) g.1 <;> cases valP (false :: bs) g.2 <;> rfl
theorem evalB_app (a b : List (List Int)) (bs : List Bool) : evalB (a ++ b) bs = (evalB a bs && evalB b bs) := by simp [evalB]
theorem cls_eval (hi : 0 ≤ inp) (hg : GatesOK inp gs) (bs : List Bool) {n : Nat} (hn : n ≤ gs.length) : evalB (tsCls inp gs n) bs = true ↔ ∀ i, i < n → bs.getD (inp.toNat + i) false = (valP (false :: bs) (gs.getD i default).1 && valP (false :: bs) (gs.getD i default).2) := by
  induction n with
  | zero => exact ⟨fun _ i h => by omega, fun _ => rfl⟩
  | succ n ih =>
    obtain ⟨q1, q2, q3, _, _⟩ := hg n (by omega)
    rw [tsCls_succ, evalB_app, Bool.and_eq_true, ih (by omega), gate_eval hi bs q1 (by omega), beq_iff_eq]
    constructor
    · rintro ⟨h1, h2⟩ i hi2
      by_cases he : i = n
      · subst he; exact h2
      · exact h1 i (by omega)
    · intro h
      exact ⟨fun i hi2 => h i (by omega), h n (by omega)⟩
theorem end_eval (bs : List Bool) (hx : 0 ≤ x) : evalB (tsEnd x) bs = valP (false :: bs) x := by
  unfold tsEnd
  split
  · rename_i h; subst h; rfl
  split
  · rename_i h; subst h; rfl
  · simp only [evalB, List.all_cons, List.all_nil, List.any_cons, List.any_nil, Bool.or_false, Bool.and_true]
    exact litV_node bs (by omega)
theorem nodesP_cons (vs : List Bool) (gs : List (Int × Int)) : nodesP vs gs = false :: (nodesP vs gs).drop 1 := by
  have h := nodesP_app vs [] gs
  rw [List.nil_append] at h
  obtain ⟨t, ht⟩ := h
  rw [← ht]; rfl
/-- Values make values of all nodes, and these are a model just when the literal is true. -/
theorem ts_ext (hi : 0 ≤ inp) (hv : (vs.length : Int) = inp) (hg : GatesOK inp gs) (hx : LitOK inp gs x) : evalB (tsP inp gs x) ((nodesP vs gs).drop 1) = valP (nodesP vs gs) x := by
  unfold tsP
  have hc := nodesP_cons vs gs
  rw [evalB_app, end_eval _ hx.1, ← hc]
  have : evalB (tsCls inp gs gs.length) ((nodesP vs gs).drop 1) = true := by
    rw [cls_eval hi hg _ (Nat.le_refl _)]
    intro i hi2
    rw [← hc, ← val_gate hv hg hi2]
    unfold valP
    rw [decide_eq_false (show ¬ 2 * (1 + inp + (i : Int)) % 2 = 1 by omega), show (2 * (1 + inp + (i : Int)) / 2).toNat = (inp.toNat + i) + 1 by omega]
    conv => rhs; rw [hc]
    show _ = (((nodesP vs gs).drop 1).getD (inp.toNat + i) false != false)
    cases ((nodesP vs gs).drop 1).getD (inp.toNat + i) false <;> rfl
  rw [this, Bool.true_and]
/-- There are no other models. -/
theorem ts_only (hi : 0 ≤ inp) (hg : GatesOK inp gs) (hl : (bs.length : Int) = inp + gs.length) (h : evalB (tsP inp gs x) bs = true) : ∀ k, k ≤ gs.length → nodesP (bs.take inp.toNat) (gs.take k) = false :: bs.take (inp.toNat + k) := by
  unfold tsP at h
  rw [evalB_app, Bool.and_eq_true, cls_eval hi hg _ (Nat.le_refl _)] at h
  intro k
  induction k with
  | zero => intro _; rfl
  | succ k ih =>
    intro hk
    obtain ⟨q1, q2, q3, _, _⟩ := hg k (by omega)
    have hlt : (bs.take (inp.toNat + k)).length = inp.toNat + k := by rw [List.length_take]; omega
    have hp : (false :: bs.take (inp.toNat + k)) <+: (false :: bs) := by
      rw [List.cons_prefix_cons]; exact ⟨rfl, List.take_prefix _ _⟩
    rw [nodesP_succ (by omega), ih (by omega), ← valP_pre (x := (gs.getD k default).1) hp (by simp only [List.length_cons, hlt]; omega), ← valP_pre (x := (gs.getD k default).2) hp (by simp only [List.length_cons, hlt]; omega), ← h.1 k (by omega), ← Nat.add_assoc, take_succ false (by omega)]
    rfl
end
theorem numH_app (a b : List Bool) : numH (a ++ b) = numH a * 2 ^ b.length + numH b := by
  induction a with
  | nil => simp [numH, numB]
  | cons x r ih =>
    rw [List.cons_append, numH_cons, numH_cons, ih, List.length_append, Nat.pow_add]
    have : 2 ^ r.length * 2 ^ b.length * x.toNat = 2 ^ r.length * x.toNat * 2 ^ b.length := by rw [Nat.mul_right_comm]
    rw [this, Nat.add_mul]; omega
/-- What the law of formulas says, without a program. -/
theorem tseitin_plain {e : Ex} (he : ExD 5 e) : ∃ l gs, makeL 4 [e] [] = ([l], gs) ∧ GatesOK 4 gs ∧ gs.length ≤ 400 ∧ LitOK 4 gs l ∧
    (cnfB (4 + gs.length) (tsP 4 gs l) = true → (modelP (4 + gs.length) (tsP 4 gs l) = none → ∀ i, i < 16 → evE (hiP i 4) e = false) ∧
      ∀ v, modelP (4 + gs.length) (tsP 4 gs l) = some v → (valsB v).length = 4 + gs.length ∧ ∃ j, j < 16 ∧ hiP j 4 = (valsB v).take 4 ∧ evE (hiP j 4) e = true ∧ ∀ i, i < 16 → evE (hiP i 4) e = true → j ≤ i) := by
  have hf := he.fit1
  have hr : ∀ x ∈ [e], rightE x = true := fun x hx => (okE_right (hf.ok x hx)).1
  have hok := makeL_ok (inp := 4) (fun x hx => makeP_ok (by decide) x (hr x hx)) hf.most []
  have hv := fun (vs : List Bool) (h4 : vs.length = 4) => makeL_val (vs := vs) (by decide) (by rw [h4]; rfl) hr hf.most (fun x hx => makeP_val (by decide) (by rw [h4]; rfl) x (hr x hx)) [] gates_nil
  have hin := hf.inner
  have hm : makeL 4 [e] [] = ([(makeP 4 e []).1], (makeP 4 e []).2) := by simp only [makeL]
  rw [hm] at hok hv
  dsimp only at hok hv
  generalize (makeP 4 e []).1 = l at *
  generalize (makeP 4 e []).2 = gs at *
  have hg := (hv [false, false, false, false] rfl).1
  have hl := hok.1 l (by simp)
  have hval : ∀ vs : List Bool, vs.length = 4 → valP (nodesP vs gs) l = evE vs e := fun vs h4 => by have := (hv vs h4).2; simpa [evL] using this
  refine ⟨l, gs, hm, hg, ?_, hl, fun hb => ?_⟩
  · have := hok.2.2.1
    simp only [List.length_nil] at this
    omega
  obtain ⟨hc, hv0, hv40, hcl⟩ := clsOK_of hb
  have hext : ∀ i, i < 16 → evalB (tsP 4 gs l) ((nodesP (hiP i 4) gs).drop 1) = evE (hiP i 4) e := fun i _ => by
    have h4 : (hiP i 4).length = 4 := by simp [hiP]
    rw [ts_ext (by decide) (by rw [h4]; rfl) hg hl, hval _ h4]
  obtain ⟨s1, s2⟩ := modelP_spec hv0 hc
  refine ⟨fun hn i hi => ?_, fun v hs => ?_⟩
  · rw [← hext i hi]; exact s1 hn _
  · obtain ⟨m1, m2⟩ := s2 v hs
    have hlen : (valsB v).length = 4 + gs.length := by omega
    have ho := ts_only (x := l) (by decide : (0 : Int) ≤ 4) hg m2 m1 gs.length (Nat.le_refl _)
    rw [List.take_length] at ho
    have h4n : (4 : Int).toNat = 4 := rfl
    rw [h4n, List.take_of_length_le (show (valsB v).length ≤ 4 + gs.length by omega)] at ho
    have ht4 : ((valsB v).take 4).length = 4 := by rw [List.length_take]; omega
    have hj := hi_numH (N := 4) (by omega) ht4
    have hjl : numH ((valsB v).take 4) < 16 := by have := numH_pow ((valsB v).take 4); rw [ht4] at this; exact this
    refine ⟨hlen, numH ((valsB v).take 4), hjl, hj, ?_, fun i hi hie => ?_⟩
    · rw [← hext _ hjl, hj, ho]; exact m1
    · rw [← hext i hi] at hie
      have hdl : ((nodesP (hiP i 4) gs).drop 1).length = 4 + gs.length := by rw [List.length_drop, nodesP_len]; simp [hiP]
      have hle := modelP_least hv0 hc hs _ (by rw [hdl]; omega) hie
      have e1 : numH (valsB v) = numH ((valsB v).take 4) * 2 ^ gs.length + numH ((valsB v).drop 4) := by
        have := numH_app ((valsB v).take 4) ((valsB v).drop 4)
        rw [List.take_append_drop, List.length_drop, hlen, show 4 + gs.length - 4 = gs.length by omega] at this
        exact this
      have hpre : hiP i 4 = ((nodesP (hiP i 4) gs).drop 1).take 4 := by
        have h := nodesP_app (hiP i 4) [] gs
        rw [List.nil_append] at h
        obtain ⟨t, ht⟩ := h
        rw [← ht]
        show hiP i 4 = (hiP i 4 ++ t).take 4
        rw [List.take_left' (by simp [hiP])]
      have e2 : numH ((nodesP (hiP i 4) gs).drop 1) = i * 2 ^ gs.length + numH (((nodesP (hiP i 4) gs).drop 1).drop 4) := by
        have := numH_app (((nodesP (hiP i 4) gs).drop 1).take 4) (((nodesP (hiP i 4) gs).drop 1).drop 4)
        rw [List.take_append_drop, ← hpre, numH_hi (by omega) (by omega), List.length_drop, hdl, show 4 + gs.length - 4 = gs.length by omega] at this
        exact this
      have e3 := numH_pow (((nodesP (hiP i 4) gs).drop 1).drop 4)
      rw [List.length_drop, hdl, show 4 + gs.length - 4 = gs.length by omega] at e3
      rcases Nat.lt_or_ge i (numH ((valsB v).take 4)) with h | h
      · exfalso
        have : (i + 1) * 2 ^ gs.length ≤ numH ((valsB v).take 4) * 2 ^ gs.length := Nat.mul_le_mul_right _ h
        rw [Nat.add_mul, Nat.one_mul] at this
        omega
      · exact h
end Go.Proofs.Ytlidjjjpjndneaa.Lg
