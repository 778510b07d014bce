/- Expressions that are drawn. -/
import Derived.Test.YtlidjjjpjndneaaEa
set_option linter.unusedSimpArgs false
set_option linter.unusedVariables false
namespace Go.Proofs.Ytlidjjjpjndneaa.Lg
open Go
attribute [local irreducible] SRun DS DRun
variable {Γ : St} {σ σ0 : St}
def szB : Nat → Nat
  | 0 => 0
  | d + 1 => 1 + 3 * szB d
theorem szB_le {d : Nat} (h : d ≤ 7) : szB d ≤ 1093 := by
  have : ∀ k, szB d ≤ szB (d + k) := by
    intro k
    induction k with
    | zero => exact Nat.le_refl _
    | succ k ih => rw [← Nat.add_assoc, szB]; omega
  have h1 := this (7 - d)
  rw [show d + (7 - d) = 7 by omega] at h1
  exact h1
/-- An expression that is drawn. -/
structure ExD (d : Nat) (e : Ex) : Prop where
  right : rightE e = true
  most : mostE e ≤ 3
  depth : depthE e ≤ d
  size : sizeE e ≤ szB d
theorem arity_le (k : Int) : arity k ≤ 3 := by unfold arity; (repeat' split) <;> omega
theorem ExD.node {d : Nat} {k : Int} {ks : List Ex} (h : ∀ e ∈ ks, ExD d e) (hk : 3 ≤ k) (hl : (ks.length : Int) = arity k) : ExD (d + 1) (.mk k 0 ks) := by
  have hL : ∀ l : List Ex, (∀ e ∈ l, ExD d e) → rightL l = true ∧ mostL l ≤ 3 ∧ depthL l ≤ d ∧ sizeL l ≤ l.length * szB d := by
    intro l hl
    induction l with
    | nil => simp [rightL, mostL, depthL, sizeL]
    | cons e r ih =>
      have he := hl e (by simp)
      obtain ⟨a1, a2, a3, a4⟩ := ih fun x hx => hl x (by simp [hx])
      have := he.right; have := he.most; have := he.depth; have := he.size
      simp only [rightL, mostL, depthL, sizeL, List.length_cons, Nat.add_mul, Bool.and_eq_true]
      exact ⟨⟨he.right, a1⟩, by omega, by omega, by omega⟩
  obtain ⟨a1, a2, a3, a4⟩ := hL ks h
  have h3 := arity_le k
  have h4 : ks.length * szB d ≤ 3 * szB d := Nat.mul_le_mul_right _ (by omega)
  refine ⟨?_, ?_, ?_, ?_⟩
  · simp only [rightE, numOK, Bool.and_eq_true, decide_eq_true_eq]
    rw [if_neg (by omega), if_neg (by omega)]
    exact ⟨⟨by simp, hl⟩, a1⟩
  · simp only [mostE]; rw [if_neg (by omega)]; omega
  · simp only [depthE]; omega
  · simp only [sizeE, szB]; omega
theorem ExD.var {d : Nat} {v : Int} (h0 : 0 ≤ v) (h1 : v ≤ 3) : ExD (d + 1) (.mk 1 v []) := by
  refine ⟨?_, ?_, ?_, ?_⟩
  · simp [rightE, numOK, arity, rightL]; omega
  · simp [mostE, mostL]; omega
  · simp [depthE, depthL]
  · simp [sizeE, sizeL, szB]
theorem ExD.const {d : Nat} {v : Int} (h0 : 0 ≤ v) (h1 : v ≤ 1) : ExD (d + 1) (.mk 2 v []) := by
  refine ⟨?_, ?_, ?_, ?_⟩
  · simp [rightE, numOK, arity, rightL]; omega
  · simp [mostE, mostL]
  · simp [depthE, depthL]
  · simp [sizeE, sizeL, szB]
theorem ExD.mono {d d' : Nat} {e : Ex} (h : ExD d e) (hd : d ≤ d') : ExD d' e := by
  have : ∀ k, szB d ≤ szB (d + k) := by
    intro k
    induction k with
    | zero => exact Nat.le_refl _
    | succ k ih => rw [← Nat.add_assoc, szB]; omega
  have h1 := this (d' - d)
  rw [show d + (d' - d) = d' by omega] at h1
  exact ⟨h.right, h.most, by have := h.depth; omega, by have := h.size; omega⟩
theorem exs_app (es : List Ex) (e : Ex) : exsV es ++ [exV e] = exsV (es ++ [e]) := by simp [exsV]
theorem exV_conv {σ σ' : St} {k n : Int} {q : V} {es : List Ex} (h : Frz σ σ' q (.isl false 3 (exsV es))) : Frz σ σ' (.agg [.int .i64 k, .int .i64 n, q]) (exV (.mk k n es)) := by
  rw [exV_mk]
  exact frz_agg (by exact ⟨.refl _, .refl _, h, trivial⟩) (by simp [V.one])
/-- What a draw leaves of memory. -/
theorem le_box {σ : St} {b b4 : Nat} {z c0 c : List V} (h4 : σ b4 = none) (hb : σ b = some c0) : ∀ d x, upd σ b c d = some x → upd (upd σ b4 z) b c d = some x := by
  intro d x h
  by_cases hd : d = b
  · subst hd; rw [upd_same] at h ⊢; exact h
  · rw [upd_ne _ _ hd] at h ⊢; exact le_upd h4 _ _ h
theorem ex_ok : ∀ (d : Nat) {Γ σ : St} {b : Nat} {ex : Bool} {code : List UInt8} {a s : Int} (hd : d ≤ 6) (hb : σ b = some (srcC ex code a s)) (ha : 0 ≤ a ∧ a + 20 * (szB (d + 1) : Int) ≤ 1000000000) (hs : 0 ≤ s ∧ s < 2147483648),
    ACalls Try.prog Γ 72 [.ptr b 0, .int .i64 d] σ fun r σ' => ∃ e a' s', ExD (d + 1) e ∧ a ≤ a' ∧ a' ≤ a + 20 * (szB (d + 1) : Int) ∧ 0 ≤ s' ∧ s' < 2147483648 ∧ r = exV e ∧ σ' = upd σ b (srcC ex code a' s') := by
  intro d
  induction d with
  | zero =>
    intro Γ σ b ex code a s hd hb ha hs
    refine acalls_W c72_ok rfl ?_
    simp (disch := omega) only [c72, go_sem, ↓if_pos, ne_eq, ↓reduceIte]
    refine SRun.allocR ?_
    intro b4 hb4
    have e4 : b4 ≠ b := fun e => by subst e; rw [hb] at hb4; cases hb4
    have hz4 : ∀ c, upd (upd σ b4 [.int .i64 0, .int .i64 0, .isl true 0 []]) b c b4 = some [.int .i64 0, .int .i64 0, .isl true 0 []] := fun c => by rw [upd_ne _ _ e4, upd_same]
    simp (disch := omega) only [go_sem, ↓if_pos, ne_eq, ↓reduceIte]
    refine SRun.callQ (chance_ok (le_upd hb4 _ _ hb) (by omega) hs (by omega)) ⟨[], rfl, rfl⟩ rfl ?_
    rintro r σ8 ⟨u8, a8, s8, k1, k2, k3, k4, rfl, rfl⟩
    skip
    simp (disch := omega) only [go_sem, ↓if_pos, ne_eq, ↓reduceIte]
    first | refine iteW_dec (fun h8 => ?_) (fun h8 => ?_) | refine iteW_of (fun h8 => ?_) (fun h8 => ?_)
    · simp (disch := omega) only [go_sem, ↓if_pos, ne_eq, ↓reduceIte]
      refine SRun.callQ (next_ok (upd_same _ _ _) (by omega) ⟨k3, k4⟩) ⟨[], rfl, rfl⟩ rfl ?_
      rintro r σ9 ⟨v, a9, s9, l1, l2, l3, l4, l5, l6, l7, rfl, rfl⟩
      rw [upd_upd]
      simp (disch := omega) only [hz4, go_sem, ↓if_pos, ne_eq, ↓reduceIte]
      refine W_retC c72_ok (r := .agg [.int .i64 2, .int .i64 v, .isl true 0 []]) (σ' := upd σ b (srcC ex code a9 s9)) (r' := exV (.mk 2 v [])) (resV_cellA rfl (upd_same _ _ _) rfl) ⟨?_, exV_conv (frz_nil _ _)⟩ ⟨_, a9, s9, .const l1 (by have := l3 (by omega); omega), by omega, by simp only [szB]; omega, l6, l7, rfl, rfl⟩
      rw [upd_comm _ e4, upd_upd]
      exact le_upd (upd_none.2 ⟨e4, hb4⟩)
    · simp (disch := omega) only [go_sem, ↓if_pos, ne_eq, ↓reduceIte]
      refine SRun.callQ (next_ok (upd_same _ _ _) (by omega) ⟨k3, k4⟩) ⟨[], rfl, rfl⟩ rfl ?_
      rintro r σ9 ⟨v, a9, s9, l1, l2, l3, l4, l5, l6, l7, rfl, rfl⟩
      rw [upd_upd]
      simp (disch := omega) only [hz4, go_sem, ↓if_pos, ne_eq, ↓reduceIte]
      refine W_retC c72_ok (r := .agg [.int .i64 1, .int .i64 v, .isl true 0 []]) (σ' := upd σ b (srcC ex code a9 s9)) (r' := exV (.mk 1 v [])) (resV_cellA rfl (upd_same _ _ _) rfl) ⟨?_, exV_conv (frz_nil _ _)⟩ ⟨_, a9, s9, .var l1 (by have := l3 (by omega); omega), by omega, by simp only [szB]; omega, l6, l7, rfl, rfl⟩
      rw [upd_comm _ e4, upd_upd]
      exact le_upd (upd_none.2 ⟨e4, hb4⟩)
  | succ d ih =>
    intro Γ σ b ex code a s hd hb ha hs
    have hsz := szB_le (d := d + 1) (by omega)
    have hsz2 : szB (d + 1 + 1) = 1 + 3 * szB (d + 1) := rfl
    refine acalls_W c72_ok rfl ?_
    simp (disch := omega) only [c72, go_sem, ↓if_pos, ne_eq, ↓reduceIte]
    refine SRun.allocR ?_
    intro b4 hb4
    have e4 : b4 ≠ b := fun e => by subst e; rw [hb] at hb4; cases hb4
    have hz4 : ∀ c, upd (upd σ b4 [.int .i64 0, .int .i64 0, .isl true 0 []]) b c b4 = some [.int .i64 0, .int .i64 0, .isl true 0 []] := fun c => by rw [upd_ne _ _ e4, upd_same]
    have hd0 : ¬ (((d + 1 : Nat) : Int) ≤ 0) := by omega
    simp (disch := omega) only [hd0, go_sem, ↓if_pos, ne_eq, ↓reduceIte]
    refine SRun.callQ (chance_ok (le_upd hb4 _ _ hb) (by omega) hs (by omega)) ⟨[], rfl, rfl⟩ rfl ?_
    rintro r σ1 ⟨u, a1, s1, j1, j2, j3, j4, rfl, rfl⟩
    simp (disch := omega) only [go_sem, ↓if_pos, ne_eq, ↓reduceIte]
    first | refine iteW_dec (fun h1 => ?_) (fun h1 => ?_) | refine iteW_of (fun h1 => ?_) (fun h1 => ?_)
    · simp (disch := omega) only [go_sem, ↓if_pos, ne_eq, ↓reduceIte]
      refine SRun.callQ (chance_ok (upd_same _ _ _) (by omega) ⟨j3, j4⟩ (by omega)) ⟨[], rfl, rfl⟩ rfl ?_
      rintro r σ8 ⟨u8, a8, s8, k1, k2, k3, k4, rfl, rfl⟩
      rw [upd_upd]
      simp (disch := omega) only [go_sem, ↓if_pos, ne_eq, ↓reduceIte]
      first | refine iteW_dec (fun h8 => ?_) (fun h8 => ?_) | refine iteW_of (fun h8 => ?_) (fun h8 => ?_)
      · simp (disch := omega) only [go_sem, ↓if_pos, ne_eq, ↓reduceIte]
        refine SRun.callQ (next_ok (upd_same _ _ _) (by omega) ⟨k3, k4⟩) ⟨[], rfl, rfl⟩ rfl ?_
        rintro r σ9 ⟨v, a9, s9, l1, l2, l3, l4, l5, l6, l7, rfl, rfl⟩
        rw [upd_upd]
        simp (disch := omega) only [hz4, go_sem, ↓if_pos, ne_eq, ↓reduceIte]
        refine W_retC c72_ok (r := .agg [.int .i64 2, .int .i64 v, .isl true 0 []]) (σ' := upd σ b (srcC ex code a9 s9)) (r' := exV (.mk 2 v [])) (resV_cellA rfl (upd_same _ _ _) rfl) ⟨?_, exV_conv (frz_nil _ _)⟩ ⟨_, a9, s9, .const l1 (by have := l3 (by omega); omega), by omega, by simp only [szB]; omega, l6, l7, rfl, rfl⟩
        rw [upd_comm _ e4, upd_upd]
        exact le_upd (upd_none.2 ⟨e4, hb4⟩)
      · simp (disch := omega) only [go_sem, ↓if_pos, ne_eq, ↓reduceIte]
        refine SRun.callQ (next_ok (upd_same _ _ _) (by omega) ⟨k3, k4⟩) ⟨[], rfl, rfl⟩ rfl ?_
        rintro r σ9 ⟨v, a9, s9, l1, l2, l3, l4, l5, l6, l7, rfl, rfl⟩
        rw [upd_upd]
        simp (disch := omega) only [hz4, go_sem, ↓if_pos, ne_eq, ↓reduceIte]
        refine W_retC c72_ok (r := .agg [.int .i64 1, .int .i64 v, .isl true 0 []]) (σ' := upd σ b (srcC ex code a9 s9)) (r' := exV (.mk 1 v [])) (resV_cellA rfl (upd_same _ _ _) rfl) ⟨?_, exV_conv (frz_nil _ _)⟩ ⟨_, a9, s9, .var l1 (by have := l3 (by omega); omega), by omega, by simp only [szB]; omega, l6, l7, rfl, rfl⟩
        rw [upd_comm _ e4, upd_upd]
        exact le_upd (upd_none.2 ⟨e4, hb4⟩)
    · simp (disch := omega) only [go_sem, ↓if_pos, ne_eq, ↓reduceIte]
      refine SRun.callQ (next_ok (upd_same _ _ _) (by omega) ⟨j3, j4⟩) ⟨[], rfl, rfl⟩ rfl ?_
      rintro r σ2 ⟨v, a2, s2, k1, k2, k3, k4, k5, k6, k7, rfl, rfl⟩
      have hv5 := k3 (by omega)
      rw [upd_upd]
      simp (disch := omega) only [go_sem, ↓if_pos, ne_eq, ↓reduceIte]
      refine SRun.allocR ?_
      intro b5 hb5
      have n5 := upd_none.1 hb5
      have n5' := upd_none.1 n5.2
      have w0 := wrap64 (a := 3 + v - 3) (by omega) (by omega)
      have hL : [V.int IntKind.i64 1, .int .i64 2, .int .i64 2, .int .i64 2, .int .i64 3] = ints [1, 2, 2, 2, 3] := rfl
      have hL5 : ([1, 2, 2, 2, 3] : List Int).length = 5 := rfl
      obtain ⟨w, hw, hget⟩ : ∃ w : Nat, (w : Int) = arity (3 + v) ∧ ([1, 2, 2, 2, 3] : List Int).getD (3 + v - 3).toNat 0 = w := by
        obtain ⟨u, rfl⟩ : ∃ u : Nat, v = u := ⟨v.toNat, by omega⟩
        rw [show ((3 : Int) + u - 3).toNat = u by omega]
        have : u < 5 := by omega
        match u, this with
        | 0, _ => exact ⟨1, by decide, rfl⟩
        | 1, _ => exact ⟨2, by decide, rfl⟩
        | 2, _ => exact ⟨2, by decide, rfl⟩
        | 3, _ => exact ⟨2, by decide, rfl⟩
        | 4, _ => exact ⟨3, by decide, rfl⟩
      have hw3 := arity_le (3 + v)
      simp (disch := omega) only [hL, hget, go_sem, ↓if_pos, ne_eq, ↓reduceIte]
      refine W_loopC (α := List Ex × Int × Int × V × St) (fun p => p.1.length ≤ w ∧ (∀ e ∈ p.1, ExD (d + 1) e) ∧ a2 ≤ p.2.1 ∧ p.2.1 ≤ a2 + p.1.length * (20 * (szB (d + 1) : Int)) ∧ 0 ≤ p.2.2.1 ∧ p.2.2.1 < 2147483648 ∧ OwnL (upd (upd (upd σ b4 [.int .i64 0, .int .i64 0, .isl true 0 []]) b (srcC ex code p.2.1 p.2.2.1)) b5 [.int .i64 (3 + v), .int .i64 0, p.2.2.2.1]) 3 (exsV p.1) p.2.2.2.1 p.2.2.2.2)
        (fun p => [(0, .ptr b 0), (1, .int .i64 ((d + 1 : Nat) : Int)), (4, .ptr b4 0), (5, .ptr b5 0), (6, .int .i64 w), (7, .int .i64 (p.1.length : Nat))]) (fun p => p.2.2.2.2) (fun p => w - p.1.length) ([], a2, s2, .isl true 0 [], _) ⟨by simp, by simp, by simp, by simp, k6, k7, OwnL.nil _ _⟩ (by simp (disch := omega) only [subT, Int.natCast_add, Int.cast_ofNat_Int, go_sem, ↓if_pos, ne_eq, ↓reduceIte] <;> (repeat' apply And.intro) <;> first | rfl | (congr 1; omega) | assumption) rfl ?_
      rintro ⟨es, a3, s3, q, σ3⟩ ⟨hes, hall, ha3, ha4, hs3, hs4, ho⟩ ih2
      dsimp only at hes hall ha3 ha4 hs3 hs4 ho
      have gb := ho.get (b := b) (c := srcC ex code a3 s3) (by rw [upd_ne _ _ n5.1.symm, upd_same])
      have g5 := ho.get (upd_same _ b5 _)
      have g5d : del σ3 b b5 = some [.int .i64 (3 + v), .int .i64 0, q] := by rw [del_ne _ n5.1]; exact g5
      have hq1 := ho.one
      have hmul : (es.length : Int) * (20 * (szB (d + 1) : Int)) ≤ 3 * (20 * (szB (d + 1) : Int)) := Int.mul_le_mul_of_nonneg_right (by omega) (by omega)
      have hmul2 : ((es.length + 1 : Nat) : Int) * (20 * (szB (d + 1) : Int)) = (es.length : Int) * (20 * (szB (d + 1) : Int)) + 20 * (szB (d + 1) : Int) := by rw [Int.natCast_add, Int.add_mul]; omega
      simp (disch := omega) only [go_sem, ↓if_pos, ne_eq, ↓reduceIte]
      first | refine iteW_dec (fun h2 => ?_) (fun h2 => ?_) | refine iteW_of (fun h2 => ?_) (fun h2 => ?_)
      · simp (disch := omega) only [go_sem, ↓if_pos, ne_eq, ↓reduceIte]
        have hmul3 : ((es.length + 1 : Nat) : Int) * (20 * (szB (d + 1) : Int)) ≤ 3 * (20 * (szB (d + 1) : Int)) := Int.mul_le_mul_of_nonneg_right (by omega) (by omega)
        rw [W_draw]
        refine DRun.start (DRun.mix1 gb rfl ?_)
        have wd : ((d + 1 : Nat) : Int) - 1 = (d : Int) := by omega
        simp (disch := omega) only [g5d, wd, go_sem, ↓if_pos, ne_eq, ↓reduceIte]
        refine DS.callQ (ih (by omega) (upd_same emp b (srcC ex code a3 s3)) (by omega) ⟨hs3, hs4⟩) ⟨[], rfl, rfl⟩ rfl ?_
        rintro r sx ⟨e, a5, s5, q1, q2, q3, q4, q5, rfl, rfl⟩ _
        simp (disch := omega) only [go_sem, ↓if_pos, ne_eq, ↓reduceIte]
        refine ⟨exC_one e, _, rfl, ?_⟩
        have ho2 := ho.upd (b := b) (c := srcC ex code a3 s3) (c' := srcC ex code a5 s5) (by rw [upd_ne _ _ n5.1.symm, upd_same])
        rw [upd_comm _ n5.1, upd_upd] at ho2
        refine DRun.appL ho2 rfl (by intro y hy; simp only [List.mem_singleton] at hy; subst hy; rw [cells_exV]; exact ⟨exC_len e, exC_one e⟩) (by simp only [exsV_len, List.length_singleton]; omega) ?_
        intro r σ4 ho4
        rw [exs_app] at ho4
        have g54 := ho4.get (upd_same _ b5 _)
        have hr1 := ho4.one
        simp (disch := omega) only [g54, hr1, ho4.cells, go_sem, ↓if_pos, ne_eq, ↓reduceIte]
        have ho5 := ho4.upd (c' := [.int .i64 (3 + v), .int .i64 0, r]) (upd_same _ b5 _)
        rw [upd_upd] at ho5
        refine ih2 (es ++ [e], a5, s5, r, _) _ _ ⟨by simp only [List.length_append, List.length_singleton]; omega, ?_, by simp only; omega, by simp only [List.length_append, List.length_singleton]; omega, q4, q5, ho5⟩ (by simp only [List.length_append, List.length_singleton]; omega) (by simp (disch := omega) only [subT, Int.natCast_add, Int.cast_ofNat_Int, List.length_append, List.length_singleton, go_sem, ↓if_pos, ne_eq, ↓reduceIte] <;> (repeat' apply And.intro) <;> first | rfl | (congr 1; omega) | assumption) rfl
        intro x hx
        rcases List.mem_append.1 hx with hx | hx
        · exact hall x hx
        · rw [List.mem_singleton.1 hx]; exact q1
      · have hr := ho.one
        have g4 := ho.get (b := b4) (c := [.int .i64 0, .int .i64 0, .isl true 0 []]) (by rw [upd_ne _ _ n5'.1.symm, upd_ne _ _ e4, upd_same])
        simp (disch := omega) only [g5, g4, hr, go_sem, ↓if_pos, ne_eq, ↓reduceIte]
        have hex : ExD (d + 1 + 1) (.mk (3 + v) 0 es) := .node hall (by omega) (by rw [← hw]; omega)
        refine W_retC c72_ok (r := .agg [.int .i64 (3 + v), .int .i64 0, q]) (σ' := upd σ b (srcC ex code a3 s3)) (r' := exV (.mk (3 + v) 0 es)) (resV_cellA rfl (upd_same _ _ _) rfl) ⟨?_, exV_conv (ho.frz ?_ ?_)⟩ ⟨_, a3, s3, hex, by omega, by omega, hs3, hs4, rfl, rfl⟩
        · intro c x hc
          have hc4 : c ≠ b4 := fun e => by subst e; rw [upd_ne _ _ e4, hb4] at hc; cases hc
          have hc5 : c ≠ b5 := fun e => by subst e; rw [upd_ne _ _ n5.1, n5'.2] at hc; cases hc
          rw [upd_ne _ _ hc4]
          refine ho.get ?_
          rw [upd_ne _ _ hc5]
          exact le_box hb4 hb _ _ hc
        · intro c hc
          rw [upd_none, upd_none, upd_none] at hc
          rw [upd_ne _ _ hc.2.2.1]
        · intro c hc
          rw [upd_none, upd_none, upd_none] at hc
          rw [upd_none]; exact ⟨hc.2.1, hc.2.2.2⟩
theorem ExOf_ok {ex : Bool} {code : List UInt8} (hl : code.length ≤ 140737488355328) : ACalls Try.prog Γ 19 [codeV ex code] σ fun r σ' => ∃ e, ExD 5 e ∧ r = exV e ∧ σ' = σ := by
  refine acalls_W c19_ok rfl ?_
  simp (disch := omega) only [c19, go_sem, ↓if_pos, ne_eq, ↓reduceIte]
  refine SRun.allocR ?_
  intro b2 hb2
  simp (disch := omega) only [go_sem, ↓if_pos, ne_eq, ↓reduceIte]
  refine SRun.callQ (source_ok hl) ⟨[], rfl, rfl⟩ rfl ?_
  rintro r σ1 ⟨b, s, hb, hs1, hs2, rfl, rfl⟩
  have nb := upd_none.1 hb
  simp (disch := omega) only [go_sem, ↓if_pos, ne_eq, ↓reduceIte]
  refine SRun.callQ (next_ok (upd_same _ _ _) (by omega) ⟨hs1, hs2⟩) ⟨[], rfl, rfl⟩ rfl ?_
  rintro r σ2 ⟨v, a2, s2, k1, k2, k3, k4, k5, k6, k7, rfl, rfl⟩
  have hv4 := k3 (by omega)
  rw [upd_upd]
  simp (disch := omega) only [go_sem, ↓if_pos, ne_eq, ↓reduceIte]
  obtain ⟨d, hd⟩ : ∃ d : Nat, 1 + v = (d : Int) := ⟨(1 + v).toNat, by omega⟩
  have hsz := szB_le (d := d + 1) (by omega)
  rw [hd]
  refine SRun.callQ (ex_ok d (by omega) (upd_same _ _ _) (by omega) ⟨k6, k7⟩) ⟨[], rfl, rfl⟩ rfl ?_
  rintro r σ3 ⟨e, a3, s3, q1, q2, q3, q4, q5, rfl, rfl⟩
  rw [upd_upd]
  have g2 : ∀ c, upd (upd σ b2 [.int .i64 0, .int .i64 0, .isl true 0 []]) b c b2 = some [.int .i64 0, .int .i64 0, .isl true 0 []] := fun c => by rw [upd_ne _ _ nb.1.symm, upd_same]
  have h1 := exC_one e
  simp (disch := omega) only [g2, h1, go_sem, ↓if_pos, ne_eq, ↓reduceIte]
  have hst : sets [V.int IntKind.i64 0, V.int IntKind.i64 0, V.isl true 0 []] 0 (exC e) = exC e := by obtain ⟨k, n, ks⟩ := e; rfl
  rw [hst]
  refine W_retC c19_ok (r := exV e) (σ' := σ) (r' := exV e) (by rw [← agg_exC]; exact resV_cellA rfl (upd_same _ _ _) (exC_len e).symm) (Conv.drop _ fun c x hc => ?_) ⟨e, q1.mono (by omega), rfl, rfl⟩
  have hc2 : c ≠ b2 := fun e => by subst e; rw [hb2] at hc; cases hc
  have hcb : c ≠ b := fun e => by subst e; rw [nb.2] at hc; cases hc
  rw [upd_ne _ _ hc2, upd_ne _ _ hcb, upd_ne _ _ hc2]; exact hc

end Go.Proofs.Ytlidjjjpjndneaa.Lg
