/- The bits of words: the program's. -/
import Derived.Test.YtlidjjjpjndneaaVp
set_option linter.unusedSimpArgs false
set_option linter.unusedVariables false
namespace Go.Proofs.Ytlidjjjpjndneaa.Lg
open Go
attribute [local irreducible] SRun DS DRun
variable {Γ : St} {σ σ0 : St}
def wdC : W3 → List V
  | .const n => [.int .i64 1, .int .i64 n, .isl false 3 []]
  | .var n => [.int .i64 2, .int .i64 n, .isl false 3 []]
  | .op k a b => [.int .i64 k, .int .i64 0, .isl false 3 [.agg (wdC a), .agg (wdC b)]]
def wdV (w : W3) : V := .agg (wdC w)
theorem wdC_len (w : W3) : (wdC w).length = 3 := by cases w <;> rfl
theorem wdC_take (w : W3) : (wdC w).take 3 = wdC w := by cases w <;> rfl
theorem wdC_one (w : W3) : ∀ c ∈ wdC w, c.one = true := by cases w <;> simp [wdC, V.one]
theorem wdC_one_T (w : W3) : (∀ c, c ∈ wdC w → c.one = true) = True := eq_true (wdC_one w)
theorem sets_wdC (w : W3) (a b c : V) : sets [a, b, c] 0 (wdC w) = wdC w := by cases w <;> rfl
theorem wd_box (w : W3) : ∀ c ∈ (V.agg (wdC w)).cells, c.one = true := wdC_one w
section
variable {P : Program} {f : FuncId} {n : Nat} {Q : V → St → Prop} {k : List It} {T : Ts} {g : GI} {l : List GI}
theorem stepW_iaddr_p0 {ex : Bool} {es : Nat} {x y : V} {kk : IntKind} : stepW P Γ f n Q (.iaddr es (.c (.isl ex es [x, y])) (.c (.int kk 0))) g l k T σ = W P Γ f n Q (.ops l :: k) (putT T g.d (.iptr x.cells)) σ := by simp [stepW_iaddr_isl]
theorem stepW_iaddr_p1 {ex : Bool} {es : Nat} {x y : V} {kk : IntKind} : stepW P Γ f n Q (.iaddr es (.c (.isl ex es [x, y])) (.c (.int kk 1))) g l k T σ = W P Γ f n Q (.ops l :: k) (putT T g.d (.iptr y.cells)) σ := by simp [stepW_iaddr_isl]
theorem stepK_iaddr_p0 {K : V → St → Prop} {ex : Bool} {es : Nat} {x y : V} {kk : IntKind} : stepK (.iaddr es (.c (.isl ex es [x, y])) (.c (.int kk 0))) σ K = K (.iptr x.cells) σ := by simp [stepK_iaddr_isl]
theorem stepK_iaddr_p1 {K : V → St → Prop} {ex : Bool} {es : Nat} {x y : V} {kk : IntKind} : stepK (.iaddr es (.c (.isl ex es [x, y])) (.c (.int kk 1))) σ K = K (.iptr y.cells) σ := by simp [stepK_iaddr_isl]
end
attribute [go_sem] wdC_len wdC_take wdC_one_T sets_wdC stepW_iaddr_p0 stepW_iaddr_p1 stepK_iaddr_p0 stepK_iaddr_p1
theorem WrF.storeR {P : Program} {T : Ts} {d : Option Nat} {n : Nat} {ad y : Opd} {b off : Nat} {cs : List V} (ha : ev Γ T ad = .ptr b off) (hb : σ b = some cs) (hn : (ev Γ T y).cells.length = n) (h1 : ∀ c ∈ (ev Γ T y).cells, c.one = true) (h4 : off + n ≤ cs.length) :
    WrF P Γ σ T ⟨d, none, .store n ad y⟩ fun r s => r = .undef ∧ s = upd σ b (sets cs off (ev Γ T y).cells) :=
  WrF.of fun T' hT => by
    have e1 := hT ad (by simp [I.opds])
    have e2 := hT y (by simp [I.opds])
    exact InsOK.store (by rw [e1]; exact ha) hb (by rw [e2]; exact hn) (by rw [e2]; exact h1) h4 ⟨rfl, by rw [e2]⟩
/-! Rows whose parts are taken for others -/
theorem frzL_app {σ σ' : St} : ∀ {a b c d : List V}, frzL σ σ' a b → frzL σ σ' c d → frzL σ σ' (a ++ c) (b ++ d) := by
  intro a
  induction a with
  | nil => intro b c d h h2; cases b with | nil => exact h2 | cons y q => exact h.elim
  | cons x r ih => intro b c d h h2; cases b with | nil => exact h.elim | cons y q => exact ⟨h.1, ih h.2 h2⟩
theorem frzL_refl {σ σ' : St} : ∀ a : List V, frzL σ σ' a a
  | [] => trivial
  | x :: r => ⟨.refl x, frzL_refl r⟩
def RowF (A : St) (es : Nat) (xs : List V) (t : V) (s : St) : Prop := ∃ ys, OwnL A es ys t s ∧ ys.length = xs.length ∧ ∀ σ σ', frzL σ σ' (flat ys) (flat xs)
theorem RowF.nil {A : St} {es es' : Nat} : RowF A es [] (.isl true es' []) A := ⟨[], OwnL.nil _ _, rfl, fun _ _ => trivial⟩
theorem RowF.frz {A s s2 σ : St} {es : Nat} {xs : List V} {t : V} (h : RowF A es xs t s) (hx : ∀ x ∈ xs, x.cells.length = es ∧ ∀ c ∈ x.cells, c.one = true) (h2 : ∀ b, A b = none → s2 b = s b) (h3 : ∀ b, A b = none → σ b = none) : Frz s2 σ t (.isl false es xs) := by
  obtain ⟨ys, ho, hl, hf⟩ := h
  have hfl : (flat xs).length = xs.length * es := flat_length fun x hm => (hx x hm).1
  have hfl2 := ho.flat_len
  rcases ho.1 with ⟨hc, hl2, rfl, es', rfl⟩ | ⟨b2, cap, hb, rfl, rfl, h4⟩
  · have : xs = [] := List.eq_nil_of_length_eq_zero (by omega)
    subst this
    exact .isl0 _ _ _ _ (fun h => by cases h)
  · refine .msl b2 es 0 _ cap (flat ys) xs (by rw [h2 b2 hb, upd_same]) (h3 b2 hb) (by omega) hl.symm (fun x hm => (hx x hm).1) (by rw [hfl, hl]) (fun i x hi => flat_ones (fun x hm => (hx x hm).2) x (List.mem_of_getElem? hi)) (fun i x y hy hx' => ?_)
    rw [Nat.zero_add] at hy
    exact frzL_get (hf _ _) i y x hy hx'
theorem constBits_ok {n : Int} {m : Nat} (hm : m ≤ 60) : Ret Try.prog Γ 110 [.int .i64 n, .int .i64 m] σ (.isl false 3 (exsV ((List.range m).map fun i => constE (bitI n i)))) σ := by
  refine ret_of c110_ok rfl ?_
  simp (disch := omega) only [c110, go_sem, ↓if_pos, ne_eq, ↓reduceIte]
  refine W_loopC (α := Nat × V × St) (fun p => p.1 ≤ m ∧ OwnL σ 3 (exsV ((List.range p.1).map fun i => constE (bitI n i))) p.2.1 p.2.2) (fun p => [(0, .int .i64 n), (5, p.2.1), (7, .int .i64 m), (8, .int .i64 (p.1 : Nat))]) (fun p => p.2.2) (fun p => m - p.1) (0, .isl true 0 [], σ) ⟨by simp, OwnL.nil _ _⟩ (by simp (disch := omega) only [subT, Int.natCast_add, Int.cast_ofNat_Int, go_sem, ↓if_pos, ne_eq, ↓reduceIte] <;> (repeat' apply And.intro) <;> first | rfl | (congr 1; omega) | assumption) rfl ?_
  rintro ⟨i, t, s⟩ ⟨hi, ho⟩ ih
  dsimp only at hi ho
  simp (disch := omega) only [go_sem, ↓if_pos, ne_eq, ↓reduceIte]
  first | refine iteW_dec (fun hq => ?_) (fun hq => ?_) | refine iteW_of (fun hq => ?_) (fun hq => ?_)
  · simp (disch := omega) only [go_sem, ↓if_pos, ne_eq, ↓reduceIte]
    refine SRun.callR (constEx_ok (n := bitI n i)) ⟨[], rfl, rfl⟩ rfl ?_
    simp (disch := omega) only [List.getD_cons_zero, List.getD_cons_succ, go_sem, ↓if_pos, ne_eq, ↓reduceIte]
    refine SRun.appL ho rfl (exs1_ok _) (by rw [exsV_len, List.length_map, List.length_range]; simp only [List.length_singleton]; omega) ?_
    intro t2 s2 ho2
    rw [exs_app, show (List.range i).map (fun i => constE (bitI n i)) ++ [constE (bitI n i)] = (List.range (i + 1)).map (fun i => constE (bitI n i)) by simp [List.range_succ]] at ho2
    simp (disch := omega) only [go_sem, ↓if_pos, ne_eq, ↓reduceIte]
    exact ih (i + 1, t2, s2) _ _ ⟨by simp only; omega, ho2⟩ (by simp only; omega) (by simp (disch := omega) only [subT, Int.natCast_add, Int.cast_ofNat_Int, go_sem, ↓if_pos, ne_eq, ↓reduceIte] <;> (repeat' apply And.intro) <;> first | rfl | (congr 1; omega) | assumption) rfl
  · obtain rfl : i = m := by omega
    simp (disch := omega) only [go_sem, ↓if_pos, ne_eq, ↓reduceIte]
    exact W_retC c110_ok (r := t) (r' := .isl false 3 (exsV ((List.range i).map fun i => constE (bitI n i)))) (σ' := σ) rfl ho.conv ⟨rfl, rfl⟩
theorem rawVar_ok (m : Int) : ∀ y ∈ [V.agg [.int .i64 1, .int .i64 m, .isl true 0 []]], y.cells.length = 3 ∧ ∀ c ∈ y.cells, c.one = true := by
  intro y hy; rw [List.mem_singleton.1 hy]; simp [V.cells, V.one]
theorem flat_app1 (xs : List V) (y : V) : flat (xs ++ [y]) = flat xs ++ y.cells := by simp [flat]
theorem rawVar_frz {σ σ' : St} (m : Int) : frzL σ σ' (V.agg [.int .i64 1, .int .i64 m, .isl true 0 []]).cells (exV (varE m)).cells := by
  rw [cells_exV]
  exact ⟨.refl _, .refl _, frz_nil _ _, trivial⟩
def carryK (k : Int) (us ws : List Ex) (i : Nat) : Ex := if k = 3 then carryE us ws i else constE 0
set_option maxHeartbeats 2000000 in
theorem wordBits_ok : ∀ (w : W3) (d : Nat) {Γ σ : St}, okW w d → Ret Try.prog Γ 66 [wdV w, .int .i64 3] σ (.isl false 3 (exsV (bitsW w))) σ := by
  intro w
  induction w with
  | const n =>
    intro d Γ σ h
    obtain ⟨h1, h2, h3⟩ := h
    refine ret_of c66_ok rfl ?_
    simp (disch := omega) only [c66, wdV, wdC, go_sem, ↓if_pos, ne_eq, ↓reduceIte]
    refine SRun.boxR (by simp [ev, look, V.cells, V.one]) ?_
    intro b2 hb2
    simp (disch := omega) only [go_sem, ↓if_pos, ne_eq, ↓reduceIte]
    refine SRun.callR (constBits_ok (n := n) (m := 3) (by omega)) ⟨[], rfl, rfl⟩ rfl ?_
    simp (disch := omega) only [List.getD_cons_zero, List.getD_cons_succ, go_sem, ↓if_pos, ne_eq, ↓reduceIte]
    exact W_retC c66_ok rfl (Conv.drop _ (le_upd hb2)) ⟨rfl, rfl⟩
  | var n =>
    intro d Γ σ h
    obtain ⟨h1, h2, h3⟩ := h
    refine ret_of c66_ok rfl ?_
    simp (disch := omega) only [c66, wdV, wdC, go_sem, ↓if_pos, ne_eq, ↓reduceIte]
    refine SRun.boxR (by simp [ev, look, V.cells, V.one]) ?_
    intro b2 hb2
    have g2 := upd_same σ b2 [.int .i64 2, .int .i64 n, .isl false 3 []]
    simp (disch := omega) only [go_sem, ↓if_pos, ne_eq, ↓reduceIte]
    refine W_loopC (α := Nat × V × St) (fun p => p.1 ≤ 3 ∧ RowF (upd σ b2 [.int .i64 2, .int .i64 n, .isl false 3 []]) 3 (exsV ((List.range p.1).map fun i => varE (n * 3 + (i : Nat)))) p.2.1 p.2.2) (fun p => [(1, .int .i64 3), (2, .ptr b2 0), (5, p.2.1), (24, .int .i64 3), (25, .int .i64 (p.1 : Nat))]) (fun p => p.2.2) (fun p => 3 - p.1) (0, .isl true 0 [], _) ⟨by simp, RowF.nil⟩ (by simp (disch := omega) only [subT, Int.natCast_add, Int.cast_ofNat_Int, go_sem, ↓if_pos, ne_eq, ↓reduceIte] <;> (repeat' apply And.intro) <;> first | rfl | (congr 1; omega) | assumption) rfl ?_
    rintro ⟨i, t, s⟩ ⟨hi, ho⟩ ih
    dsimp only at hi ho
    simp (disch := omega) only [go_sem, ↓if_pos, ne_eq, ↓reduceIte]
    obtain ⟨ys, hy1, hy2, hy3⟩ := ho
    rw [exsV_len, List.length_map, List.length_range] at hy2
    first | refine iteW_dec (fun hq => ?_) (fun hq => ?_) | refine iteW_of (fun hq => ?_) (fun hq => ?_)
    · simp (disch := omega) only [hy1.get g2, go_sem, ↓if_pos, ne_eq, ↓reduceIte]
      refine SRun.appL hy1 rfl (rawVar_ok _) (by simp only [List.length_singleton]; omega) ?_
      intro t2 s2 ho2
      have hrow : RowF (upd σ b2 [.int .i64 2, .int .i64 n, .isl false 3 []]) 3 (exsV ((List.range (i + 1)).map fun i => varE (n * 3 + (i : Nat)))) t2 s2 := by
        refine ⟨_, ho2, by simp [exsV_len, hy2], fun σ σ' => ?_⟩
        rw [flat_app1, show (List.range (i + 1)).map (fun i => varE (n * 3 + (i : Nat))) = (List.range i).map (fun i => varE (n * 3 + (i : Nat))) ++ [varE (n * 3 + (i : Nat))] by simp [List.range_succ], ← exs_app, flat_app1]
        exact frzL_app (hy3 _ _) (rawVar_frz _)
      simp (disch := omega) only [go_sem, ↓if_pos, ne_eq, ↓reduceIte]
      exact ih (i + 1, t2, s2) _ _ ⟨by simp only; omega, hrow⟩ (by simp only; omega) (by simp (disch := omega) only [subT, Int.natCast_add, Int.cast_ofNat_Int, go_sem, ↓if_pos, ne_eq, ↓reduceIte] <;> (repeat' apply And.intro) <;> first | rfl | (congr 1; omega) | assumption) rfl
    · obtain rfl : i = 3 := by omega
      simp (disch := omega) only [go_sem, ↓if_pos, ne_eq, ↓reduceIte]
      refine W_retC c66_ok (r := t) (r' := .isl false 3 (exsV (bitsW (.var n)))) (σ' := σ) rfl ⟨fun d x hd => hy1.le _ _ (le_upd hb2 _ _ hd), RowF.frz ⟨ys, hy1, by rw [hy2]; rfl, hy3⟩ (exsV_ok _) (fun _ _ => rfl) (fun d hd => ?_)⟩ ⟨rfl, rfl⟩
      exact (upd_none.1 hd).2
  | op k a b iha ihb =>
    intro d Γ σ h
    obtain ⟨h1, h2, h3, h4, h5⟩ := h
    refine ret_of c66_ok rfl ?_
    simp (disch := omega) only [c66, wdV, wdC, go_sem, ↓if_pos, ne_eq, ↓reduceIte]
    refine SRun.boxR (by simp [ev, look, V.cells, V.one]) ?_
    intro b2 hb2
    have g2 := upd_same σ b2 [.int .i64 k, .int .i64 0, .isl false 3 [.agg (wdC a), .agg (wdC b)]]
    have e1 : decide (k = 1) = false := decide_eq_false (by omega)
    have e2 : decide (k = 2) = false := decide_eq_false (by omega)
    simp (disch := omega) only [e1, e2, go_sem, ↓if_pos, ne_eq, ↓reduceIte]
    have hA := fun Γ σ => iha _ (Γ := Γ) (σ := σ) h4
    have hB := fun Γ σ => ihb _ (Γ := Γ) (σ := σ) h5
    have hlu := bitsW_len a
    have hlw := bitsW_len b
    have hW : bitsW (.op k a b) = (List.range 3).map (opBit k (bitsW a) (bitsW b)) := rfl
    rw [hW]
    clear hW
    generalize bitsW a = us at *
    generalize bitsW b = ws at *
    generalize hR : (List.range 3).map (opBit k us ws) = R
    refine W_drawW ?_
    refine DRun.mixE rfl ?_
    simp (disch := omega) only [go_sem, ↓if_pos, ne_eq, ↓reduceIte]
    refine DS.callB (hA _ _) ⟨[], rfl, rfl⟩ rfl rfl ?_
    simp (disch := omega) only [go_sem, ↓if_pos, ne_eq, ↓reduceIte]
    refine DRun.callQ (hB _ _) ⟨[], rfl, rfl⟩ ?_
    rintro r s ⟨rfl, hs⟩
    obtain rfl := hs.symm
    simp (disch := omega) only [go_sem, ↓if_pos, ne_eq, ↓reduceIte]
    refine SRun.callR (constEx_ok (n := 0)) ⟨[], rfl, rfl⟩ rfl ?_
    simp (disch := omega) only [List.getD_cons_zero, List.getD_cons_succ, go_sem, ↓if_pos, ne_eq, ↓reduceIte]
    refine SRun.callR (lessEx_ok (ea := false) (eb := false) (us := us) (ws := ws) (by omega) (by omega)) ⟨[], rfl, rfl⟩ rfl ?_
    simp (disch := omega) only [List.getD_cons_zero, List.getD_cons_succ, go_sem, ↓if_pos, ne_eq, ↓reduceIte]
    rw [hlu]
    refine SRun.allocR ?_
    intro b9 hb9
    simp (disch := omega) only [go_sem, ↓if_pos, ne_eq, ↓reduceIte]
    refine SRun.allocR ?_
    intro b10 hb10
    have n109 := (upd_none.1 hb10).1
    have n92 := (upd_none.1 hb9).1
    have n102 := (upd_none.1 (upd_none.1 hb10).2).1
    have n910 := n109.symm
    simp (disch := omega) only [n109, n910, go_sem, ↓if_pos, ne_eq, ↓reduceIte]
    generalize hA0 : upd (upd (upd (upd (upd σ b2 [V.int .i64 k, .int .i64 0, .isl false 3 [.agg (wdC a), .agg (wdC b)]]) b9 [V.int .i64 0, .int .i64 0, .isl true 0 []]) b10 [V.int .i64 0, .int .i64 0, .isl true 0 []]) b9 (exC (constE 0))) b10 (exC (lessE us ws 3)) = A0
    have g2' : A0 b2 = some [V.int .i64 k, .int .i64 0, .isl false 3 [.agg (wdC a), .agg (wdC b)]] := by rw [← hA0, upd_ne _ _ n102.symm, upd_ne _ _ n92.symm, upd_ne _ _ n102.symm, upd_ne _ _ n92.symm, upd_same]
    have g9 : A0 b9 = some (exC (constE 0)) := by rw [← hA0, upd_ne _ _ n910, upd_same]
    have g10 : A0 b10 = some (exC (lessE us ws 3)) := by rw [← hA0, upd_same]
    have hσ : ∀ d x, σ d = some x → d ≠ b9 ∧ A0 d = some x := fun d x h => by
      have h9 : d ≠ b9 := fun e => by (subst e; rw [(upd_none.1 hb9).2] at h; cases h)
      have h10 : d ≠ b10 := fun e => by (subst e; rw [(upd_none.1 (upd_none.1 hb10).2).2] at h; cases h)
      refine ⟨h9, ?_⟩
      rw [← hA0, upd_ne _ _ h10, upd_ne _ _ h9, upd_ne _ _ h10, upd_ne _ _ h9]; exact le_upd hb2 _ _ h
    clear hA0
    have hc0 : carryK k us ws 0 = constE 0 := by unfold carryK; split <;> rfl
    rw [← hc0] at g9
    refine W_loopC (α := Nat × V × St × St) (fun p => p.1 ≤ 3 ∧ OwnL p.2.2.1 3 (exsV ((List.range p.1).map (opBit k us ws))) p.2.1 p.2.2.2 ∧ p.2.2.1 b2 = some [V.int .i64 k, .int .i64 0, .isl false 3 [.agg (wdC a), .agg (wdC b)]] ∧ p.2.2.1 b9 = some (exC (carryK k us ws p.1)) ∧ p.2.2.1 b10 = some (exC (lessE us ws 3)) ∧ ∀ d x, σ d = some x → p.2.2.1 d = some x)
      (fun p => [(1, .int .i64 3), (2, .ptr b2 0), (5, p.2.1), (7, .isl false 3 (exsV us)), (8, .isl false 3 (exsV ws)), (9, .ptr b9 0), (10, .ptr b10 0), (56, .int .i64 3), (57, .int .i64 (p.1 : Nat))]) (fun p => p.2.2.2) (fun p => 3 - p.1) (0, .isl true 0 [], A0, A0) ⟨by simp, OwnL.nil _ _, g2', g9, g10, fun d x h => (hσ d x h).2⟩ (by simp (disch := omega) only [subT, Int.natCast_add, Int.cast_ofNat_Int, go_sem, ↓if_pos, ne_eq, ↓reduceIte] <;> (repeat' apply And.intro) <;> first | rfl | (congr 1; omega) | assumption) rfl ?_
    clear g2 g2' g9 g10 hb9 hb10
    rintro ⟨i, t, A, s⟩ ⟨hi, ho, g2, g9, g10, hle⟩ ih
    dsimp only at hi ho g2 g9 g10 hle
    simp (disch := omega) only [go_sem, ↓if_pos, ne_eq, ↓reduceIte]
    first | refine iteW_dec (fun hq => ?_) (fun hq => ?_) | refine iteW_of (fun hq => ?_) (fun hq => ?_)
    · simp (disch := omega) only [go_sem, ↓if_pos, ne_eq, ↓reduceIte]
      rw [W_draw]
      refine DRun.start (DRun.mixNR (fun T s' => ∃ b12 b13, s b12 = none ∧ s b13 = none ∧ b12 ≠ b13 ∧ s' = upd (upd emp b12 (exC (us.getD i default))) b13 [.int .i64 0, .int .i64 0, .isl true 0 []] ∧ look T 1 = .int .i64 3 ∧ look T 2 = .ptr b2 0 ∧ look T 5 = t ∧ look T 7 = .isl false 3 (exsV us) ∧ look T 8 = .isl false 3 (exsV ws) ∧ look T 9 = .ptr b9 0 ∧ look T 10 = .ptr b10 0 ∧ look T 56 = .int .i64 3 ∧ look T 57 = .int .i64 (i : Nat) ∧ look T 12 = .ptr b12 0 ∧ look T 13 = .ptr b13 0 ∧ look T 67 = exV (ws.getD i default)) rfl ?_ ?_)
      · simp (disch := omega) only [go_sem, ↓if_pos, ne_eq, ↓reduceIte]
        refine DS.wr2 WrF.alloc rfl ?_ ?_
        · rintro _ s3 ⟨b12, hb12, rfl, rfl⟩ hd1
          simp (disch := omega) only [go_sem, ↓if_pos, ne_eq, ↓reduceIte]
          refine DS.wrQ WrF.alloc rfl ?_
          rintro _ s3 ⟨b13, hb13, rfl, rfl⟩ hd2
          simp (disch := omega) only [go_sem, ↓if_pos, ne_eq, ↓reduceIte]
          have hu := upd_none.1 hb13
          have hz : upd (upd emp b12 [V.int .i64 0, .int .i64 0, .isl true 0 []]) b13 [V.int .i64 0, .int .i64 0, .isl true 0 []] b12 = some [V.int .i64 0, .int .i64 0, .isl true 0 []] := by rw [upd_ne _ _ hu.1.symm, upd_same]
          refine DS.wrQ (WrF.storeR (y := .t 63) rfl hz (by show (exV (us.getD i default)).cells.length = 3; rw [cells_exV]; exact exC_len _) (by show ∀ c ∈ (exV (us.getD i default)).cells, c.one = true; rw [cells_exV]; exact exC_one _) (by simp)) rfl ?_
          rintro _ s4 ⟨_, rfl⟩ hd3
          rw [show (ev Γ _ (.t 63)) = exV (us.getD i default) from rfl, cells_exV, sets_exC3, upd_comm _ hu.1.symm, upd_upd]
          exact ⟨b12, b13, disj_new hd1, (hd2 b13).resolve_left (by rw [upd_same]; simp), hu.1.symm, upd_comm _ hu.1 _ _, rfl, rfl, rfl, rfl, rfl, rfl, rfl, rfl, rfl, rfl, rfl, rfl⟩
        · refine DS.wrQ WrF.alloc rfl ?_
          rintro _ s3 ⟨b13, hb13, rfl, rfl⟩ hd1
          simp (disch := omega) only [go_sem, ↓if_pos, ne_eq, ↓reduceIte]
          refine DS.wrQ WrF.alloc rfl ?_
          rintro _ s3 ⟨b12, hb12, rfl, rfl⟩ hd2
          simp (disch := omega) only [go_sem, ↓if_pos, ne_eq, ↓reduceIte]
          have hu := upd_none.1 hb12
          refine DS.wrQ (WrF.storeR (y := .t 63) rfl (upd_same _ b12 _) (by show (exV (us.getD i default)).cells.length = 3; rw [cells_exV]; exact exC_len _) (by show ∀ c ∈ (exV (us.getD i default)).cells, c.one = true; rw [cells_exV]; exact exC_one _) (by simp)) rfl ?_
          rintro _ s4 ⟨_, rfl⟩ hd3
          rw [show (ev Γ _ (.t 63)) = exV (us.getD i default) from rfl, cells_exV, sets_exC3, upd_upd]
          exact ⟨b12, b13, (hd2 b12).resolve_left (by rw [upd_same]; simp), disj_new hd1, hu.1, upd_comm _ hu.1.symm _ _, rfl, rfl, rfl, rfl, rfl, rfl, rfl, rfl, rfl, rfl, rfl, rfl⟩
      · rintro T _ ⟨b12, b13, hb12, hb13, n1213, rfl, t1, t2, t5, t7, t8, t9, t10, t56, t57, t12, t13, t67⟩
        rw [cup_upd, cup_new]
        have hb13' : upd s b12 (exC (us.getD i default)) b13 = none := by rw [upd_ne _ _ n1213.symm]; exact hb13
        have ho2 := (ho.ext (z := exC (us.getD i default)) hb12).ext (z := exC (ws.getD i default)) hb13'
        have hA12 : A b12 = none := by
          cases hc : A b12 with
          | none => rfl
          | some x => rw [ho.get hc] at hb12; cases hb12
        have hA13 : upd A b12 (exC (us.getD i default)) b13 = none := by
          rw [upd_ne _ _ n1213.symm]
          cases hc : A b13 with
          | none => rfl
          | some x => rw [ho.get hc] at hb13; cases hb13
        have a2 := le_upd (cs := exC (ws.getD i default)) hA13 _ _ (le_upd (cs := exC (us.getD i default)) hA12 _ _ g2)
        have a9 := le_upd (cs := exC (ws.getD i default)) hA13 _ _ (le_upd (cs := exC (us.getD i default)) hA12 _ _ g9)
        have a10 := le_upd (cs := exC (ws.getD i default)) hA13 _ _ (le_upd (cs := exC (us.getD i default)) hA12 _ _ g10)
        have a12 : upd (upd A b12 (exC (us.getD i default))) b13 (exC (ws.getD i default)) b12 = some (exC (us.getD i default)) := by rw [upd_ne _ _ n1213, upd_same]
        have a13 := upd_same (upd A b12 (exC (us.getD i default))) b13 (exC (ws.getD i default))
        have hle3 : ∀ d z, A d = some z → upd (upd A b12 (exC (us.getD i default))) b13 (exC (ws.getD i default)) d = some z := fun d z h => le_upd hA13 _ _ (le_upd hA12 _ _ h)
        generalize upd (upd A b12 (exC (us.getD i default))) b13 (exC (ws.getD i default)) = A3 at *
        have hsuc : ∀ e, e = opBit k us ws i → exsV ((List.range i).map (opBit k us ws)) ++ [exV e] = exsV ((List.range (i + 1)).map (opBit k us ws)) := fun e he => by rw [exs_app, he]; simp [List.range_succ]
        have hfit : ((exsV ((List.range i).map (opBit k us ws))).length + 1) * 40 ≤ 140737488355328 := by rw [exsV_len, List.length_map, List.length_range]; omega
        simp (disch := omega) only [t13, t67, t2, ho2.get a2, go_sem, ↓if_pos, ne_eq, ↓reduceIte]
        have s2' := ho2.get a2
        have s9' := ho2.get a9
        have s10' := ho2.get a10
        have s12' := ho2.get a12
        have s13' := ho2.get a13
        generalize upd (upd s b12 (exC (us.getD i default))) b13 (exC (ws.getD i default)) = s3 at *
        first | refine iteW_dec (fun hk3 => ?_) (fun hk3 => ?_) | refine iteW_of (fun hk3 => ?_) (fun hk3 => ?_)
        · simp (disch := omega) only [go_sem, ↓if_pos, ne_eq, ↓reduceIte]
          rw [W_draw]
          refine SRun.freeze (T' := [(1, .int .i64 3), (2, .ptr b2 0), (5, t), (7, .isl false 3 (exsV us)), (8, .isl false 3 (exsV ws)), (9, .ptr b9 0), (10, .ptr b10 0), (56, .int .i64 3), (57, .int .i64 (i : Nat)), (12, .ptr b12 0), (13, .ptr b13 0)]) (σ' := s3) (fun _ _ h => h) ⟨?_, ?_, ?_, ?_, ?_, ?_, ?_, ?_, ?_, ?_, ?_, trivial⟩ ?_
          all_goals try (simp only [look_cons, Nat.reduceEqDiff, ↓reduceIte, t1, t2, t5, t7, t8, t9, t10, t56, t57, t12, t13]; exact .refl _)
          clear t1 t2 t5 t7 t8 t9 t10 t56 t57 t12 t13 t67 T
          refine DRun.start (DRun.mixE rfl ?_)
          have hob : nodeE 6 [nodeE 6 [us.getD i default, ws.getD i default], carryK k us ws i] = opBit k us ws i := by unfold opBit carryK; rw [if_pos hk3, if_pos hk3]
          have hcs : carryK k us ws (i + 1) = nodeE 5 [nodeE 4 [us.getD i default, ws.getD i default], nodeE 4 [carryK k us ws i, nodeE 6 [us.getD i default, ws.getD i default]]] := by unfold carryK; rw [if_pos hk3, if_pos hk3]; rfl
          simp (disch := omega) only [s12', s13', s9', go_sem, ↓if_pos, ne_eq, ↓reduceIte]
          generalize us.getD i default = x at *
          generalize ws.getD i default = y at *
          generalize carryK k us ws i = c at *
          refine DS.callB (implEx_ok (k := 6) (ks := [x, y]) (e := true)) ⟨[], rfl, rfl⟩ rfl rfl ?_
          simp (disch := omega) only [go_sem, ↓if_pos, ne_eq, ↓reduceIte]
          refine DS.callB (implEx_ok (k := 6) (ks := [nodeE 6 [x, y], c]) (e := true)) ⟨[], rfl, rfl⟩ rfl rfl ?_
          simp (disch := omega) only [go_sem, ↓if_pos, ne_eq, ↓reduceIte]
          refine DRun.appL ho2 rfl (exs1_ok _) hfit ?_
          intro t2 s5 ho3
          rw [hsuc _ hob] at ho3
          have q9 := ho3.get a9
          have q12 := ho3.get a12
          have q13 := ho3.get a13
          simp (disch := omega) only [go_sem, ↓if_pos, ne_eq, ↓reduceIte]
          refine W_drawW ?_
          refine DRun.mixE rfl ?_
          simp (disch := omega) only [q12, q13, q9, go_sem, ↓if_pos, ne_eq, ↓reduceIte]
          refine DS.callB (implEx_ok (k := 4) (ks := [x, y]) (e := true)) ⟨[], rfl, rfl⟩ rfl rfl ?_
          simp (disch := omega) only [go_sem, ↓if_pos, ne_eq, ↓reduceIte]
          refine DS.callB (implEx_ok (k := 6) (ks := [x, y]) (e := true)) ⟨[], rfl, rfl⟩ rfl rfl ?_
          simp (disch := omega) only [go_sem, ↓if_pos, ne_eq, ↓reduceIte]
          refine DRun.callQ (implEx_ok (k := 4) (ks := [c, nodeE 6 [x, y]]) (e := true)) ⟨[], rfl, rfl⟩ ?_
          rintro r s ⟨rfl, hs⟩
          obtain rfl := hs.symm
          simp (disch := omega) only [go_sem, ↓if_pos, ne_eq, ↓reduceIte]
          refine DRun.callQ (implEx_ok (k := 5) (ks := [nodeE 4 [x, y], nodeE 4 [c, nodeE 6 [x, y]]]) (e := true)) ⟨[], rfl, rfl⟩ ?_
          rintro r s ⟨rfl, hs⟩
          obtain rfl := hs.symm
          simp (disch := omega) only [q9, go_sem, ↓if_pos, ne_eq, ↓reduceIte]
          have ho4 := ho3.upd (c' := exC (nodeE 5 [nodeE 4 [x, y], nodeE 4 [c, nodeE 6 [x, y]]])) a9
          exact ih (i + 1, t2, upd A3 b9 (exC (nodeE 5 [nodeE 4 [x, y], nodeE 4 [c, nodeE 6 [x, y]]])), upd s5 b9 (exC (nodeE 5 [nodeE 4 [x, y], nodeE 4 [c, nodeE 6 [x, y]]]))) _ _ ⟨by simp only; omega, ho4, by dsimp only; rw [upd_ne _ _ n92.symm]; exact a2, by dsimp only; rw [hcs]; exact upd_same _ _ _, by dsimp only; rw [upd_ne _ _ n109]; exact a10, fun d z h => by dsimp only; rw [upd_ne _ _ (hσ d z h).1]; exact hle3 _ _ (hle _ _ h)⟩ (by simp only; omega) (by simp (disch := omega) only [subT, Int.natCast_add, Int.cast_ofNat_Int, go_sem, ↓if_pos, ne_eq, ↓reduceIte] <;> (repeat' apply And.intro) <;> first | rfl | (congr 1; omega) | assumption) rfl
        · simp (disch := omega) only [go_sem, ↓if_pos, ne_eq, ↓reduceIte]
          have hcs : carryK k us ws (i + 1) = carryK k us ws i := by unfold carryK; rw [if_neg hk3, if_neg hk3]
          first | refine iteW_dec (fun hk4 => ?_) (fun hk4 => ?_) | refine iteW_of (fun hk4 => ?_) (fun hk4 => ?_)
          · have hob : nodeE 4 [us.getD i default, ws.getD i default] = opBit k us ws i := by unfold opBit; rw [if_neg hk3, if_pos hk4]
            simp (disch := omega) only [t5, t12, t13, s12', s13', go_sem, ↓if_pos, ne_eq, ↓reduceIte]
            refine SRun.freeze (T' := [(105, t), (108, .isl true 3 [exV (us.getD i default), exV (ws.getD i default)]), (1, .int .i64 3), (2, .ptr b2 0), (5, t), (7, .isl false 3 (exsV us)), (8, .isl false 3 (exsV ws)), (9, .ptr b9 0), (10, .ptr b10 0), (56, .int .i64 3), (57, .int .i64 (i : Nat)), (12, .ptr b12 0), (13, .ptr b13 0)]) (σ' := s3) (fun _ _ h => h) ⟨?_, ?_, ?_, ?_, ?_, ?_, ?_, ?_, ?_, ?_, ?_, ?_, ?_, trivial⟩ ?_
            all_goals try (simp only [look_cons, Nat.reduceEqDiff, ↓reduceIte, t1, t2, t5, t7, t8, t9, t10, t56, t57, t12, t13]; exact .refl _)
            clear t1 t2 t5 t7 t8 t9 t10 t56 t57 t12 t13 t67 T
            generalize us.getD i default = x at *
            generalize ws.getD i default = y at *
            refine SRun.callR (implEx_ok (k := 4) (ks := [x, y]) (e := true)) ⟨[], rfl, rfl⟩ rfl ?_
            simp (disch := omega) only [List.getD_cons_zero, List.getD_cons_succ, go_sem, ↓if_pos, ne_eq, ↓reduceIte]
            refine SRun.appL ho2 rfl (exs1_ok _) hfit ?_
            intro t2 s5 ho3
            rw [hsuc _ hob] at ho3
            simp (disch := omega) only [go_sem, ↓if_pos, ne_eq, ↓reduceIte]
            exact ih (i + 1, t2, A3, s5) _ _ ⟨by simp only; omega, ho3, a2, by simp only; rw [hcs]; exact a9, a10, fun d z h => hle3 _ _ (hle _ _ h)⟩ (by simp only; omega) (by simp (disch := omega) only [subT, Int.natCast_add, Int.cast_ofNat_Int, go_sem, ↓if_pos, ne_eq, ↓reduceIte] <;> (repeat' apply And.intro) <;> first | rfl | (congr 1; omega) | assumption) rfl
          · have hob : nodeE 7 [lessE us ws 3, us.getD i default, ws.getD i default] = opBit k us ws i := by unfold opBit; rw [if_neg hk3, if_neg hk4]
            simp (disch := omega) only [t5, t10, t12, t13, s12', s13', s10', go_sem, ↓if_pos, ne_eq, ↓reduceIte]
            refine SRun.freeze (T' := [(70, t), (74, .isl true 3 [exV (lessE us ws 3), exV (us.getD i default), exV (ws.getD i default)]), (1, .int .i64 3), (2, .ptr b2 0), (5, t), (7, .isl false 3 (exsV us)), (8, .isl false 3 (exsV ws)), (9, .ptr b9 0), (10, .ptr b10 0), (56, .int .i64 3), (57, .int .i64 (i : Nat)), (12, .ptr b12 0), (13, .ptr b13 0)]) (σ' := s3) (fun _ _ h => h) ⟨?_, ?_, ?_, ?_, ?_, ?_, ?_, ?_, ?_, ?_, ?_, ?_, ?_, trivial⟩ ?_
            all_goals try (simp only [look_cons, Nat.reduceEqDiff, ↓reduceIte, t1, t2, t5, t7, t8, t9, t10, t56, t57, t12, t13]; exact .refl _)
            clear t1 t2 t5 t7 t8 t9 t10 t56 t57 t12 t13 t67 T
            generalize us.getD i default = x at *
            generalize ws.getD i default = y at *
            generalize lessE us ws 3 = l at *
            refine SRun.callR (implEx_ok (k := 7) (ks := [l, x, y]) (e := true)) ⟨[], rfl, rfl⟩ rfl ?_
            simp (disch := omega) only [List.getD_cons_zero, List.getD_cons_succ, go_sem, ↓if_pos, ne_eq, ↓reduceIte]
            refine SRun.appL ho2 rfl (exs1_ok _) hfit ?_
            intro t2 s5 ho3
            rw [hsuc _ hob] at ho3
            simp (disch := omega) only [go_sem, ↓if_pos, ne_eq, ↓reduceIte]
            exact ih (i + 1, t2, A3, s5) _ _ ⟨by simp only; omega, ho3, a2, by simp only; rw [hcs]; exact a9, a10, fun d z h => hle3 _ _ (hle _ _ h)⟩ (by simp only; omega) (by simp (disch := omega) only [subT, Int.natCast_add, Int.cast_ofNat_Int, go_sem, ↓if_pos, ne_eq, ↓reduceIte] <;> (repeat' apply And.intro) <;> first | rfl | (congr 1; omega) | assumption) rfl
    · obtain rfl : i = 3 := by omega
      rw [hR] at ho
      simp (disch := omega) only [go_sem, ↓if_pos, ne_eq, ↓reduceIte]
      refine W_retC c66_ok (r := t) (r' := .isl false 3 (exsV R)) (σ' := σ) rfl ⟨fun d x hd => ho.le _ _ (hle _ _ hd), ho.frz (fun _ _ => rfl) (fun d hd => ?_)⟩ ⟨rfl, rfl⟩
      cases hc : σ d with
      | none => rfl
      | some x => rw [hle _ _ hc] at hd; cases hd
end Go.Proofs.Ytlidjjjpjndneaa.Lg
