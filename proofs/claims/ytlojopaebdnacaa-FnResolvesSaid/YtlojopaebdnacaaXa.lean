/- The law FnImplied over its code: what it answers, told of the plain functions. -/
import Derived.Test.YtlojopaebdnacaaSa
set_option linter.unusedSimpArgs false
set_option linter.unusedVariables false
namespace Go.Proofs.Ytlojopaebdnacaa.Lg
open Go
attribute [local irreducible] SRun DS DRun
variable {Γ : St} {σ σ0 : St}
theorem cnfB_of {vars : Int} {cls : List (List Int)} (h : Drawn vars cls) : cnfB vars cls = true := by
  obtain ⟨h1, h2, h3, h4⟩ := h
  simp only [cnfB, Bool.and_eq_true, decide_eq_true_eq, List.all_eq_true, clauseB]
  refine ⟨⟨⟨by omega, by omega⟩, by omega⟩, fun c hc => ⟨by have := (h4 c hc).1; omega, fun x hx => ?_⟩⟩
  exact litB_iff.2 ((h4 c hc).2 x hx)
theorem clauseB_of {vars : Int} {xs : List Int} (h1 : xs.length ≤ 3) (h2 : litsIn vars xs) : clauseB vars xs = true := by
  simp only [clauseB, Bool.and_eq_true, decide_eq_true_eq, List.all_eq_true]
  exact ⟨by omega, fun x hx => litB_iff.2 (h2 x hx)⟩
/-- What the law holds against the program's answer. -/
def wantP (N : Nat) (cls : List (List Int)) (xs : List Int) (i : Nat) : Bool := (List.range i).all fun j => !evalB cls (valuesP j N) || evalB [xs] (valuesP j N)
theorem wantP_succ (N : Nat) (cls : List (List Int)) (xs : List Int) (i : Nat) : wantP N cls xs (i + 1) = (wantP N cls xs i && (!evalB cls (valuesP i N) || evalB [xs] (valuesP i N))) := by
  simp [wantP, List.range_succ, List.all_append]
theorem fnImplied_ok {ex ex2 : Bool} {code more : List UInt8} (hl1 : code.length ≤ 140737488355328) (hl2 : more.length ≤ 140737488355328)
    (law : ∀ (N : Nat) cls xs, 1 ≤ N → N ≤ 6 → Drawn N cls → xs.length ≤ 3 → litsIn N xs → (modelP N (cls ++ xs.map fun x => [-x])).isNone = wantP N cls xs (2 ^ N)) :
    Ret Try.prog Γ 3 [codeV ex code, codeV ex2 more] σ (.bool true) σ := by
  refine ret_of c3_ok rfl ?_
  simp only [c3, codeV, go_sem, stepW_iaddr_isl, stepW_iaddr_msl, stepW_idxs, stepK_iaddr_isl, stepK_iaddr_msl, stepK_idxs, ne_eq, ↓reduceIte]
  have early : ∀ T, look T 4 = .bool true → W Try.prog Γ 3 79 (fun x s => x = .bool true ∧ s = σ) [.code .ret] T σ → True := fun _ _ _ => trivial
  refine guardW_of (fun h => ?_) (fun h => ?_)
  · simp only [h, go_sem, stepW_iaddr_isl, stepW_iaddr_msl, stepW_idxs, stepK_iaddr_isl, stepK_iaddr_msl, stepK_idxs, ne_eq, ↓reduceIte]
    exact W_retR c3_ok rfl ⟨rfl, rfl⟩
  · simp only [h, go_sem, stepW_iaddr_isl, stepW_iaddr_msl, stepW_idxs, stepK_iaddr_isl, stepK_iaddr_msl, stepK_idxs, ne_eq, ↓reduceIte]
    refine iteW_of (fun h2 => ?_) (fun h2 => ?_)
    · simp only [go_sem, stepW_iaddr_isl, stepW_iaddr_msl, stepW_idxs, stepK_iaddr_isl, stepK_iaddr_msl, stepK_idxs, ne_eq, ↓reduceIte]
      exact W_retR c3_ok rfl ⟨rfl, rfl⟩
    · simp only [go_sem, stepW_iaddr_isl, stepW_iaddr_msl, stepW_idxs, stepK_iaddr_isl, stepK_iaddr_msl, stepK_idxs, ne_eq, ↓reduceIte]
      refine SRun.callQ (cnfOf_ok (ex := ex) (code := code) hl1) ⟨[], rfl, rfl⟩ rfl ?_
      rintro r s ⟨vars, cls, hd, rfl, hs⟩
      have hs := hs.symm
      subst hs
      obtain ⟨N, rfl⟩ : ∃ N : Nat, vars = N := ⟨vars.toNat, by have := hd.1; omega⟩
      have hN1 : 1 ≤ N := by have := hd.1; omega
      have hN6 : N ≤ 6 := by have := hd.2.1; omega
      simp only [go_sem, stepW_iaddr_isl, stepW_iaddr_msl, stepW_idxs, stepK_iaddr_isl, stepK_iaddr_msl, stepK_idxs, ne_eq, ↓reduceIte]
      refine SRun.allocR ?_
      intro b5 hb5
      simp only [cnfV, go_sem, stepW_iaddr_isl, stepW_iaddr_msl, stepW_idxs, stepK_iaddr_isl, stepK_iaddr_msl, stepK_idxs, ne_eq, ↓reduceIte]
      refine SRun.callQ (clauseOf_frz (ex := ex2) (code := more) (vars := N) hl2 (by omega)) ⟨[], rfl, rfl⟩ rfl ?_
      rintro r s ⟨xs, hx3, hxl, rfl, hs⟩
      have hs := hs.symm
      subst hs
      simp only [go_sem, stepW_iaddr_isl, stepW_iaddr_msl, stepW_idxs, stepK_iaddr_isl, stepK_iaddr_msl, stepK_idxs, ne_eq, ↓reduceIte]
      refine SRun.callR (implied_ok (ex := false) (vars := N) (by omega) (cnfB_of hd) (clauseB_of hx3 hxl)) ⟨[], rfl, rfl⟩ rfl ?_
      rw [law N cls xs hN1 hN6 hd hx3 hxl]
      simp only [List.getD_cons_zero, List.getD_cons_succ, go_sem, stepW_iaddr_isl, stepW_iaddr_msl, stepW_idxs, stepK_iaddr_isl, stepK_iaddr_msl, stepK_idxs, ne_eq, ↓reduceIte]
      have hp : 2 ^ N ≤ 64 := Nat.pow_le_pow_right (n := 2) (by omega) hN6
      refine W_loopR (fun m T σ' => ∃ i : Nat, i + m = 2 ^ N ∧ look T 5 = .ptr b5 0 ∧ look T 6 = intsV xs ∧ look T 7 = .bool (wantP N cls xs (2 ^ N)) ∧ look T 8 = .int .i64 0 ∧ look T 9 = .bool (wantP N cls xs i) ∧ look T 10 = .int .i64 i ∧ σ' = upd σ b5 [.int .i64 N, .isl false 1 (clsV cls)]) (2 ^ N) ?_ ?_
      · exact ⟨0, by omega, rfl, rfl, rfl, rfl, rfl, rfl, rfl⟩
      · rintro m T σ' ih ⟨i, hm, t5, t6, t7, t8, t9, t10, rfl⟩
        have w1 := wrapU64 (a := (N : Int)) (by omega) (by omega)
        have e1 : (1 : Int) * 2 ^ min N 64 = ((2 ^ N : Nat) : Int) := by
          rw [show min N 64 = N from Nat.min_eq_left (by omega)]; simp
        have w2 := wrap64 (a := ((2 ^ N : Nat) : Int)) (by omega) (by omega)
        have c0 : (0 : Int) ≤ (N : Int) := by omega
        simp only [t5, t6, t7, t8, t9, t10, w1, e1, w2, c0, Int.toNat_natCast, go_sem, stepW_iaddr_isl, stepW_iaddr_msl, stepW_idxs, stepK_iaddr_isl, stepK_iaddr_msl, stepK_idxs, ne_eq, ↓reduceIte]
        refine iteW_of (fun hq => ?_) (fun hq => ?_)
        · have hq' := of_decide_eq_true hq
          simp only [t5, t6, t7, t8, t9, t10, go_sem, stepW_iaddr_isl, stepW_iaddr_msl, stepW_idxs, stepK_iaddr_isl, stepK_iaddr_msl, stepK_idxs, ne_eq, ↓reduceIte]
          refine SRun.callQ (values_ok (a := i) (many := N) (by omega)) ⟨[], rfl, rfl⟩ rfl ?_
          rintro r s ⟨rfl, hs⟩
          have hs := hs.symm
          subst hs
          have hvl : ((valuesP i N).length : Int) = N := by simp [valuesP]
          simp only [t5, t6, t7, t8, t9, t10, go_sem, stepW_iaddr_isl, stepW_iaddr_msl, stepW_idxs, stepK_iaddr_isl, stepK_iaddr_msl, stepK_idxs, ne_eq, ↓reduceIte]
          refine SRun.callR (evalCnf_ok (ex := false) (cnfB_of hd) hvl) ⟨[], rfl, rfl⟩ rfl ?_
          simp only [t5, t6, t7, t8, t9, t10, List.getD_cons_zero, List.getD_cons_succ, intsV, go_sem, stepW_iaddr_isl, stepW_iaddr_msl, stepW_idxs, stepK_iaddr_isl, stepK_iaddr_msl, stepK_idxs, ne_eq, ↓reduceIte]
          have hone : cnfB N [xs] = true := by
            simp only [cnfB, List.all_cons, List.all_nil, Bool.and_true, clauseB_of hx3 hxl, Bool.and_eq_true, decide_eq_true_eq, List.length_singleton]
            omega
          have hcall : Ret Try.prog Γ 14 [.agg [.int .i64 N, .isl true 1 [.isl false 1 (ints xs)]], boolsV (valuesP i N)] (upd σ b5 [.int .i64 N, .isl false 1 (clsV cls)]) (.tup [.bool (evalB [xs] (valuesP i N)), .int .i64 0]) (upd σ b5 [.int .i64 N, .isl false 1 (clsV cls)]) := by
            refine ACalls.pre (args' := [cnfV N [xs], boolsV (valuesP i N)]) (fun _ _ h => h) rfl ?_ (evalCnf_ok (ex := false) hone hvl)
            intro j x y hx hy
            match j with
            | 0 =>
              simp at hx hy; subst hx hy
              refine .agg _ _ rfl ?_ ?_
              · intro j x hx
                match j with
                | 0 => simp at hx; subst hx; rfl
                | 1 => simp at hx; subst hx; rfl
                | j + 2 => simp at hx
              · intro j x y hy hx
                match j with
                | 0 => simp at hx hy; subst hx hy; exact .refl _
                | 1 => simp at hx hy; subst hx hy; exact .isl _ _ _
                | j + 2 => simp at hx
            | 1 => simp at hx hy; subst hx hy; exact .refl _
            | j + 2 => simp at hx
          refine SRun.callR hcall ⟨[], rfl, rfl⟩ rfl ?_
          have w3 := wrap64 (a := (i : Int) + 1) (by omega) (by omega)
          simp only [t5, t6, t7, t8, t9, t10, List.getD_cons_zero, List.getD_cons_succ, go_sem, stepW_iaddr_isl, stepW_iaddr_msl, stepW_idxs, stepK_iaddr_isl, stepK_iaddr_msl, stepK_idxs, ne_eq, ↓reduceIte]
          have next : ∀ T, look T 5 = .ptr b5 0 → look T 6 = intsV xs → look T 7 = .bool (wantP N cls xs (2 ^ N)) → look T 8 = .int .i64 0 → look T 9 = .bool (wantP N cls xs (i + 1)) → look T 10 = .int .i64 ((i : Int) + 1) → _ := fun T g5 g6 g7 g8 g9 g10 => ih (m - 1) T (upd σ b5 [.int .i64 N, .isl false 1 (clsV cls)]) (by omega) ⟨i + 1, by omega, g5, g6, g7, g8, g9, g10, rfl⟩
          refine guardW_of (fun hw => ?_) (fun hw => ?_)
          · simp only [hw, go_sem, stepW_iaddr_isl, stepW_iaddr_msl, stepW_idxs, stepK_iaddr_isl, stepK_iaddr_msl, stepK_idxs, ne_eq, ↓reduceIte]
            cases ha : evalB cls (valuesP i N) with
            | true =>
              simp only [ha, t10, w3, go_sem, stepW_iaddr_isl, stepW_iaddr_msl, stepW_idxs, stepK_iaddr_isl, stepK_iaddr_msl, stepK_idxs, ne_eq, ↓reduceIte]
              refine next _ ?_ ?_ ?_ ?_ ?_ ?_
              · simp only [go_sem, stepW_iaddr_isl, stepW_iaddr_msl, stepW_idxs, stepK_iaddr_isl, stepK_iaddr_msl, stepK_idxs, ne_eq, ↓reduceIte]; exact t5
              · simp only [go_sem, stepW_iaddr_isl, stepW_iaddr_msl, stepW_idxs, stepK_iaddr_isl, stepK_iaddr_msl, stepK_idxs, ne_eq, ↓reduceIte]; exact t6
              · simp only [go_sem, stepW_iaddr_isl, stepW_iaddr_msl, stepW_idxs, stepK_iaddr_isl, stepK_iaddr_msl, stepK_idxs, ne_eq, ↓reduceIte]; exact t7
              · simp only [go_sem, stepW_iaddr_isl, stepW_iaddr_msl, stepW_idxs, stepK_iaddr_isl, stepK_iaddr_msl, stepK_idxs, ne_eq, ↓reduceIte]; exact t8
              · simp only [go_sem, stepW_iaddr_isl, stepW_iaddr_msl, stepW_idxs, stepK_iaddr_isl, stepK_iaddr_msl, stepK_idxs, ne_eq, ↓reduceIte]; rw [wantP_succ, hw, ha]; simp
              · rfl
            | false =>
              simp only [ha, t10, w3, go_sem, stepW_iaddr_isl, stepW_iaddr_msl, stepW_idxs, stepK_iaddr_isl, stepK_iaddr_msl, stepK_idxs, ne_eq, ↓reduceIte]
              refine next _ ?_ ?_ ?_ ?_ ?_ ?_
              · simp only [go_sem, stepW_iaddr_isl, stepW_iaddr_msl, stepW_idxs, stepK_iaddr_isl, stepK_iaddr_msl, stepK_idxs, ne_eq, ↓reduceIte]; exact t5
              · simp only [go_sem, stepW_iaddr_isl, stepW_iaddr_msl, stepW_idxs, stepK_iaddr_isl, stepK_iaddr_msl, stepK_idxs, ne_eq, ↓reduceIte]; exact t6
              · simp only [go_sem, stepW_iaddr_isl, stepW_iaddr_msl, stepW_idxs, stepK_iaddr_isl, stepK_iaddr_msl, stepK_idxs, ne_eq, ↓reduceIte]; exact t7
              · simp only [go_sem, stepW_iaddr_isl, stepW_iaddr_msl, stepW_idxs, stepK_iaddr_isl, stepK_iaddr_msl, stepK_idxs, ne_eq, ↓reduceIte]; exact t8
              · simp only [go_sem, stepW_iaddr_isl, stepW_iaddr_msl, stepW_idxs, stepK_iaddr_isl, stepK_iaddr_msl, stepK_idxs, ne_eq, ↓reduceIte]; rw [wantP_succ, hw, ha]; simp
              · rfl
          · simp only [hw, t10, w3, go_sem, stepW_iaddr_isl, stepW_iaddr_msl, stepW_idxs, stepK_iaddr_isl, stepK_iaddr_msl, stepK_idxs, ne_eq, ↓reduceIte]
            refine next _ ?_ ?_ ?_ ?_ ?_ ?_
            · simp only [go_sem, stepW_iaddr_isl, stepW_iaddr_msl, stepW_idxs, stepK_iaddr_isl, stepK_iaddr_msl, stepK_idxs, ne_eq, ↓reduceIte]; exact t5
            · simp only [go_sem, stepW_iaddr_isl, stepW_iaddr_msl, stepW_idxs, stepK_iaddr_isl, stepK_iaddr_msl, stepK_idxs, ne_eq, ↓reduceIte]; exact t6
            · simp only [go_sem, stepW_iaddr_isl, stepW_iaddr_msl, stepW_idxs, stepK_iaddr_isl, stepK_iaddr_msl, stepK_idxs, ne_eq, ↓reduceIte]; exact t7
            · simp only [go_sem, stepW_iaddr_isl, stepW_iaddr_msl, stepW_idxs, stepK_iaddr_isl, stepK_iaddr_msl, stepK_idxs, ne_eq, ↓reduceIte]; exact t8
            · simp only [go_sem, stepW_iaddr_isl, stepW_iaddr_msl, stepW_idxs, stepK_iaddr_isl, stepK_iaddr_msl, stepK_idxs, ne_eq, ↓reduceIte]; rw [wantP_succ, hw]; simp
            · rfl
        · have hq' := of_decide_eq_false hq
          have hiN : i = 2 ^ N := by omega
          rw [hiN] at t9
          simp only [t5, t6, t7, t8, t9, t10, go_sem, stepW_iaddr_isl, stepW_iaddr_msl, stepW_idxs, stepK_iaddr_isl, stepK_iaddr_msl, stepK_idxs, ne_eq, ↓reduceIte]
          have h00 : ((0 : Int) == 0) = true := rfl
          simp only [h00, t7, t9, go_sem, stepW_iaddr_isl, stepW_iaddr_msl, stepW_idxs, stepK_iaddr_isl, stepK_iaddr_msl, stepK_idxs, ne_eq, ↓reduceIte]
          refine W_retC c3_ok rfl (Conv.drop _ (le_upd hb5)) ⟨?_, rfl⟩
          simp [look]
end Go.Proofs.Ytlojopaebdnacaa.Lg
