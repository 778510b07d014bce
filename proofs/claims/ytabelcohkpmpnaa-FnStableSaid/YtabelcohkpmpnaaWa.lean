/- Routes, the reference's: what a router could have and what is best. -/
import Derived.Test.YtabelcohkpmpnaaRb
import Derived.Test.YtabelcohkpmpnaaLgK
set_option linter.unusedSimpArgs false
set_option linter.unusedVariables false
namespace Go.Proofs.Ytabelcohkpmpnaa.Lg
open Go
attribute [local irreducible] SRun DS DRun
variable {Γ : St} {σ σ0 : St}
theorem rtsV_len (rs : List Rt) : (rtsV rs).length = rs.length := by simp [rtsV]
section
variable {P : Program} {f : FuncId} {n : Nat} {Q : V → St → Prop} {k : List It} {T : Ts} {g : GI} {l : List GI}
theorem stepW_iaddr_rts {ex : Bool} {xs : List Rt} {kk : IntKind} {m : Int} (h0 : 0 ≤ m) (h1 : m < xs.length) : stepW P Γ f n Q (.iaddr 4 (.c (.isl ex 4 (rtsV xs))) (.c (.int kk m))) g l k T σ = W P Γ f n Q (.ops l :: k) (putT T g.d (.iptr (rtC (xs.getD m.toNat default)))) σ := stepW_iaddr_map h0 h1
theorem stepK_iaddr_rts {K : V → St → Prop} {ex : Bool} {xs : List Rt} {kk : IntKind} {m : Int} (h0 : 0 ≤ m) (h1 : m < xs.length) : stepK (.iaddr 4 (.c (.isl ex 4 (rtsV xs))) (.c (.int kk m))) σ K = K (.iptr (rtC (xs.getD m.toNat default))) σ := stepK_iaddr_map h0 h1
theorem stepW_iaddr_bools {ex : Bool} {xs : List Bool} {kk : IntKind} {m : Int} (h0 : 0 ≤ m) (h1 : m < xs.length) : stepW P Γ f n Q (.iaddr 1 (.c (.isl ex 1 (bools xs))) (.c (.int kk m))) g l k T σ = W P Γ f n Q (.ops l :: k) (putT T g.d (.iptr [.bool (xs.getD m.toNat false)])) σ := stepW_iaddr_map h0 h1
theorem stepK_iaddr_bools {K : V → St → Prop} {ex : Bool} {xs : List Bool} {kk : IntKind} {m : Int} (h0 : 0 ≤ m) (h1 : m < xs.length) : stepK (.iaddr 1 (.c (.isl ex 1 (bools xs))) (.c (.int kk m))) σ K = K (.iptr [.bool (xs.getD m.toNat false)]) σ := stepK_iaddr_map h0 h1
end
attribute [go_sem] stepW_iaddr_rts stepK_iaddr_rts rtsV_len stepW_iaddr_bools stepK_iaddr_bools bools_len
theorem rt_one (r : Rt) : ∀ c ∈ rtC r, c.one = true := by simp [rtC, V.one]
theorem rts_ok (rs : List Rt) : ∀ y ∈ rtsV rs, y.cells.length = 4 ∧ ∀ c ∈ y.cells, c.one = true := by
  intro y hy; simp only [rtsV, List.mem_map] at hy; obtain ⟨x, _, rfl⟩ := hy; simp [V.cells, rtC, V.one]
theorem rt1_ok (r : Rt) : ∀ y ∈ [V.agg (rtC r)], y.cells.length = 4 ∧ ∀ c ∈ y.cells, c.one = true := rts_ok [r]
theorem rts_app (rs : List Rt) (r : Rt) : rtsV rs ++ [.agg (rtC r)] = rtsV (rs ++ [r]) := by simp [rtsV]
theorem le_two {b c : Nat} (hb : σ b = none) (hc : σ c = none) (y z : List V) : ∀ d x, σ d = some x → upd (upd σ b y) c z d = some x := by
  intro d x h
  have h1 : d ≠ c := fun e => by subst e; rw [h] at hc; cases hc
  have h2 : d ≠ b := fun e => by subst e; rw [h] at hb; cases hb
  rw [upd_ne _ _ h1, upd_ne _ _ h2]; exact h
/-- What is owned beside what is not needed any more. -/
theorem ownL_less {σ1 s : St} {es : Nat} {xs : List V} {q : V} (h : OwnL σ1 es xs q s) (hle : ∀ b c, σ b = some c → σ1 b = some c) : ∃ s2, (∀ b c, s2 b = some c → s b = some c) ∧ OwnL σ es xs q s2 := by
  rcases h.1 with ⟨hc, hl, rfl, es', rfl⟩ | ⟨b2, cap, hb, rfl, rfl, h4⟩
  · exact ⟨σ, hle, .inl ⟨hc, hl, rfl, es', rfl⟩, h.2⟩
  · have hb2 : σ b2 = none := by
      cases e : σ b2 with
      | none => rfl
      | some c => rw [hle _ _ e] at hb; cases hb
    refine ⟨upd σ b2 (flat xs), fun b c hbc => ?_, .inr ⟨b2, cap, hb2, rfl, rfl, h4⟩, h.2⟩
    by_cases e : b = b2
    · subst e; rw [upd_same] at hbc ⊢; exact hbc
    · rw [upd_ne _ _ e] at hbc ⊢; exact hle _ _ hbc
theorem l07None_ok : Ret Try.prog Γ 70 [] σ (.agg (rtC noRt)) σ := by
  refine ret_of c70_ok rfl ?_
  simp (disch := omega) only [c70, go_sem, ↓if_pos, ne_eq, ↓reduceIte]
  refine SRun.allocR ?_
  intro b hb
  simp (disch := omega) only [go_sem, ↓if_pos, ne_eq, ↓reduceIte]
  exact W_retC c70_ok (resV_cellA rfl (upd_same _ _ _) rfl) (Conv.drop _ (le_upd hb)) ⟨rfl, rfl⟩
theorem l07Has_ok {ex : Bool} {xs : List Int} {x : Int} (hl : xs.length ≤ 1000000000000) : Ret Try.prog Γ 133 [.isl ex 1 (ints xs), .int .i64 x] σ (.int .i64 (hasI xs x)) σ := by
  refine ret_of c133_ok rfl ?_
  simp (disch := omega) only [c133, go_sem, ↓if_pos, ne_eq, ↓reduceIte]
  refine W_loopC (α := Nat) (fun i => i ≤ xs.length ∧ ∀ j, j < i → decide (xs.getD j default = x) = false) (fun i => [(0, .isl ex 1 (ints xs)), (1, .int .i64 x), (5, .int .i64 (i : Nat))]) (fun _ => σ) (fun i => xs.length - i) 0 ⟨by omega, fun j hj => by omega⟩ (by simp (disch := omega) only [subT, Int.natCast_add, Int.cast_ofNat_Int, go_sem, ↓if_pos, ne_eq, ↓reduceIte] <;> (repeat' apply And.intro) <;> first | rfl | (congr 1; omega) | assumption) rfl ?_
  rintro i ⟨hi, hno⟩ ih
  simp (disch := omega) only [go_sem, ↓if_pos, ne_eq, ↓reduceIte]
  first | refine iteW_dec (fun hq => ?_) (fun hq => ?_) | refine iteW_of (fun hq => ?_) (fun hq => ?_)
  · simp (disch := omega) only [go_sem, ↓if_pos, ne_eq, ↓reduceIte]
    first | refine iteW_dec (fun h2 => ?_) (fun h2 => ?_) | refine iteW_of (fun h2 => ?_) (fun h2 => ?_)
    · have := first_some (p := fun y => decide (y = x)) (xs := xs) (i := i) (by omega) hno (decide_eq_true h2)
      simp (disch := omega) only [go_sem, ↓if_pos, ne_eq, ↓reduceIte]
      exact W_retR c133_ok rfl ⟨by rw [hasI, this]; rfl, rfl⟩
    · simp (disch := omega) only [go_sem, ↓if_pos, ne_eq, ↓reduceIte]
      refine ih (i + 1) _ _ ⟨by omega, fun j hj => ?_⟩ (by omega) (by simp (disch := omega) only [subT, Int.natCast_add, Int.cast_ofNat_Int, go_sem, ↓if_pos, ne_eq, ↓reduceIte] <;> (repeat' apply And.intro) <;> first | rfl | (congr 1; omega) | assumption) rfl
      by_cases e : j = i
      · subst e; exact decide_eq_false h2
      · exact hno j (by omega)
  · have hil : i = xs.length := by omega
    rw [hil] at hno
    have := first_none (p := fun y => decide (y = x)) (xs := xs) hno
    simp (disch := omega) only [go_sem, ↓if_pos, ne_eq, ↓reduceIte]
    exact W_retR c133_ok rfl ⟨by rw [hasI, this]; rfl, rfl⟩
theorem l07Better_ok {a b : Rt} : Ret Try.prog Γ 132 [.agg (rtC a), .agg (rtC b)] σ (.bool (betterP a b)) σ := by
  refine ret_of c132_ok rfl ?_
  simp (disch := omega) only [c132, rtC, go_sem, ↓if_pos, ne_eq, ↓reduceIte]
  refine SRun.boxR (by simp [ev, look, V.cells, V.one]) ?_
  intro b2 hb2
  simp (disch := omega) only [go_sem, ↓if_pos, ne_eq, ↓reduceIte]
  refine SRun.boxR (by simp [ev, look, V.cells, V.one]) ?_
  intro b3 hb3
  have n32 := (upd_none.1 hb3).1
  have n3 := (upd_none.1 hb3).2
  have hle := le_two hb2 n3
  unfold betterP
  simp (disch := omega) only [n32.symm, go_sem, ↓if_pos, ne_eq, ↓reduceIte]
  first | refine iteW_dec (fun h1 => ?_) (fun h1 => ?_) | refine iteW_of (fun h1 => ?_) (fun h1 => ?_)
  · rw [if_pos h1]
    simp (disch := omega) only [n32.symm, go_sem, ↓if_pos, ne_eq, ↓reduceIte]
    exact W_retC c132_ok rfl (Conv.drop _ (hle _ _)) ⟨rfl, rfl⟩
  · rw [if_neg h1]
    simp (disch := omega) only [n32.symm, go_sem, ↓if_pos, ne_eq, ↓reduceIte]
    first | refine iteW_dec (fun h2 => ?_) (fun h2 => ?_) | refine iteW_of (fun h2 => ?_) (fun h2 => ?_)
    · rw [if_pos h2]
      simp (disch := omega) only [n32.symm, go_sem, ↓if_pos, ne_eq, ↓reduceIte]
      exact W_retC c132_ok rfl (Conv.drop _ (hle _ _)) ⟨rfl, rfl⟩
    · rw [if_neg h2]
      simp (disch := omega) only [n32.symm, go_sem, ↓if_pos, ne_eq, ↓reduceIte]
      exact W_retC c132_ok rfl (Conv.drop _ (hle _ _)) ⟨rfl, rfl⟩
end Go.Proofs.Ytabelcohkpmpnaa.Lg
