/- Answers compared, marked, held. -/
import Derived.Test.YtdenfjbhkdhlkaaIg
set_option linter.unusedSimpArgs false
set_option linter.unusedVariables false
namespace Go.Proofs.Ytdenfjbhkdhlkaa.Lg
open Go
section
variable {P : Program} {Γ σ : St} {f : FuncId} {n : Nat} {Q : V → St → Prop} {k : List It} {T : Ts} {g : GI} {l : List GI}
theorem stepW_iaddr_bools {ex : Bool} {xs : List Bool} {kk : IntKind} {m : Int} (h0 : 0 ≤ m) (h1 : m < xs.length) : stepW P Γ f n Q (.iaddr 1 (.c (.isl ex 1 (bools xs))) (.c (.int kk m))) g l k T σ = W P Γ f n Q (.ops l :: k) (putT T g.d (.iptr [.bool (xs.getD m.toNat false)])) σ := stepW_iaddr_map h0 h1
theorem stepK_iaddr_bools {K : V → St → Prop} {ex : Bool} {xs : List Bool} {kk : IntKind} {m : Int} (h0 : 0 ≤ m) (h1 : m < xs.length) : stepK (.iaddr 1 (.c (.isl ex 1 (bools xs))) (.c (.int kk m))) σ K = K (.iptr [.bool (xs.getD m.toNat false)]) σ := stepK_iaddr_map h0 h1
end
attribute [go_sem] stepW_iaddr_bools stepK_iaddr_bools bools_len
attribute [local irreducible] SRun DS DRun
variable {Γ : St} {σ σ0 : St}
theorem eqBoolS_ok {ex ex2 : Bool} {xs : List Bool} (h1 : xs.length ≤ 1048576) : Ret Try.prog Γ 21 [.isl ex 1 (bools xs), .isl ex2 1 (bools xs)] σ (.bool true) σ := by
  refine ret_of c21_ok rfl ?_
  simp (disch := omega) only [c21, dec_same, go_sem]
  refine W_loopC (α := Nat) (fun i => i ≤ xs.length) (fun i => [(0, .isl ex 1 (bools xs)), (1, .isl ex2 1 (bools xs)), (5, .int .i64 (i : Nat))]) (fun i => σ) (fun i => xs.length - i) 0 (by omega) (by simp (disch := omega) only [subT, Int.natCast_add, Int.cast_ofNat_Int, go_sem] <;> (repeat' apply And.intro) <;> first | rfl | (congr 1; omega) | assumption) rfl ?_
  intro i hi ih
  have hbb : ∀ b : Bool, (b == b) = true := fun b => by simp
  have hnt : (!true) = false := rfl
  simp (disch := omega) only [go_sem]
  first | refine iteW_dec (fun hq => ?_) (fun hq => ?_) | refine iteW_of (fun hq => ?_) (fun hq => ?_)
  · simp (disch := omega) only [go_sem]
    refine W_drawW ?_
    simp (disch := omega) only [dec_same, hbb, hnt, go_sem]
    exact ih (i + 1) _ _ (by omega) (by omega) (by simp (disch := omega) only [subT, Int.natCast_add, Int.cast_ofNat_Int, go_sem] <;> (repeat' apply And.intro) <;> first | rfl | (congr 1; omega) | assumption) rfl
  · simp (disch := omega) only [go_sem]
    exact W_retR c21_ok rfl ⟨rfl, rfl⟩
def markB (k : Int) (n : Nat) : List Bool := (List.range n).map fun i : Nat => decide ((k + i).tmod 3 = 0)
theorem markB_len (k : Int) (n : Nat) : (markB k n).length = n := by simp [markB]
theorem markB_at {k : Int} {n i : Nat} (h : i < n) : (markB k n).getD i false = decide ((k + i).tmod 3 = 0) := by simp [markB, List.getD, h]
def partM (k : Int) (xs : List Bool) (i : Nat) : List Bool := markB k i ++ xs.drop i
theorem partM_len {k : Int} {xs : List Bool} {i : Nat} (h : i ≤ xs.length) : (partM k xs i).length = xs.length := by simp [partM, markB_len]; omega
theorem partM_zero (k : Int) (xs : List Bool) : partM k xs 0 = xs := by simp [partM, markB]
theorem partM_all (k : Int) (xs : List Bool) : partM k xs xs.length = markB k xs.length := by simp [partM]
theorem partM_set {k : Int} {xs : List Bool} {i : Nat} (h : i < xs.length) : (partM k xs i).set i (decide ((k + i).tmod 3 = 0)) = partM k xs (i + 1) := by
  unfold partM
  rw [List.set_append_right _ _ (by rw [markB_len]; exact Nat.le_refl _), markB_len, Nat.sub_self, List.drop_eq_getElem_cons h, List.set_cons_zero]
  simp [markB, List.range_succ]
theorem bools_setM {xs : List Bool} {rest : List V} {i : Nat} {x : Bool} (h : i < xs.length) : (bools xs ++ rest).set i (.bool x) = bools (xs.set i x) ++ rest := by
  rw [List.set_append_left _ _ (by rw [bools_len]; exact h)]; simp [bools, List.map_set]
theorem markBoolP_at {xs : List Bool} {q : V} {k : Int} (h : PreB σ xs q) (hl : xs.length ≤ 1048576) (hk : 0 ≤ k ∧ k ≤ 1000000000) : ACalls Try.prog Γ 25 [q, .int .i64 k] σ fun r s => r = .int .i64 (k + xs.length) ∧ PreB s (markB k xs.length) q ∧ ∀ b, blk q ≠ some b → s b = σ b := by
  rcases h with ⟨rfl, es', rfl⟩ | ⟨b, cap, rest, rfl, hb⟩
  · refine acalls_W c25_ok rfl ?_
    simp (disch := omega) only [c25, go_sem]
    refine W_loopC (α := Unit) (fun _ => True) (fun _ => [(0, .isl true es' []), (1, .int .i64 k), (5, .int .i64 0)]) (fun _ => σ) (fun _ => 0) () trivial (by simp (disch := omega) only [subT, Int.natCast_add, Int.cast_ofNat_Int, go_sem] <;> (repeat' apply And.intro) <;> first | rfl | (congr 1; omega) | assumption) rfl ?_
    intro _ _ _
    simp (disch := omega) only [List.length_nil, go_sem]
    exact W_retR c25_ok rfl ⟨by simp [look], .inl ⟨rfl, _, rfl⟩, fun _ _ => rfl⟩
  · refine acalls_W c25_ok rfl ?_
    simp (disch := omega) only [c25, go_sem]
    refine W_loopC (α := Nat) (fun i => i ≤ xs.length) (fun i => [(0, .msl b 1 0 xs.length cap), (1, .int .i64 (k + i)), (5, .int .i64 (i : Nat))]) (fun i => upd σ b (bools (partM k xs i) ++ bools rest)) (fun i => xs.length - i) 0 (by omega) (by simp (disch := omega) only [subT, Int.natCast_add, Int.cast_ofNat_Int, Int.natCast_zero, Int.add_zero, go_sem] <;> (repeat' apply And.intro) <;> first | rfl | (congr 1; omega) | assumption) (by rw [partM_zero]; exact upd_self _ hb) ?_
    intro i hi ih
    have g := upd_same σ b (bools (partM k xs i) ++ bools rest)
    have hpl := partM_len (k := k) hi
    have hpl2 : (bools (partM k xs i) ++ bools rest).length = xs.length + (bools rest).length := by rw [List.length_append, bools_len, hpl]
    simp (disch := omega) only [go_sem]
    first | refine iteW_dec (fun h1 => ?_) (fun h1 => ?_) | refine iteW_of (fun h1 => ?_) (fun h1 => ?_)
    · simp (disch := omega) only [g, hpl2, go_sem]
      rw [bools_setM (by omega), partM_set (by omega)]
      exact ih (i + 1) _ _ (by omega) (by omega) (by simp (disch := omega) only [subT, Int.natCast_add, Int.cast_ofNat_Int, go_sem] <;> (repeat' apply And.intro) <;> first | rfl | (congr 1; omega) | assumption) rfl
    · have hil : i = xs.length := by omega
      subst hil
      rw [partM_all]
      simp (disch := omega) only [go_sem]
      exact W_retR c25_ok rfl ⟨rfl, .inr ⟨b, cap, rest, by rw [markB_len], upd_same _ _ _⟩, fun d hd => upd_ne _ _ (fun e => hd (by rw [e]; rfl))⟩
theorem heldBoolS_ok {ex : Bool} {n : Nat} {k : Int} (hl : n ≤ 1048576) (hk : 0 ≤ k ∧ k ≤ 1000000000) : Ret Try.prog Γ 27 [.isl ex 1 (bools (markB k n)), .int .i64 k] σ (.int .i64 (k + n)) σ := by
  have hul := markB_len k n
  refine ret_of c27_ok rfl ?_
  simp (disch := omega) only [c27, go_sem]
  refine W_loopC (α := Nat) (fun i => i ≤ n) (fun i => [(0, .isl ex 1 (bools (markB k n))), (1, .int .i64 (k + i)), (5, .int .i64 (i : Nat))]) (fun _ => σ) (fun i => n - i) 0 (by omega) (by simp (disch := omega) only [subT, Int.natCast_add, Int.cast_ofNat_Int, Int.natCast_zero, Int.add_zero, go_sem] <;> (repeat' apply And.intro) <;> first | rfl | (congr 1; omega) | assumption) rfl ?_
  intro i hi ih
  simp (disch := omega) only [bools_len, hul, go_sem]
  first | refine iteW_dec (fun h1 => ?_) (fun h1 => ?_) | refine iteW_of (fun h1 => ?_) (fun h1 => ?_)
  · have hat := markB_at (k := k) (n := n) (i := i) (by omega)
    have hbb : ∀ b : Bool, (b == b) = true := fun b => by simp
    have hnt : (!true) = false := rfl
    simp (disch := omega) only [bools_len, hul, hat, hbb, hnt, go_sem]
    exact ih (i + 1) _ _ (by omega) (by omega) (by simp (disch := omega) only [subT, Int.natCast_add, Int.cast_ofNat_Int, go_sem] <;> (repeat' apply And.intro) <;> first | rfl | (congr 1; omega) | assumption) rfl
  · have hil : i = n := by omega
    subst hil
    simp (disch := omega) only [go_sem]
    exact W_retR c27_ok rfl ⟨rfl, rfl⟩
/-! Answers -/
def ansW (v : Bool) (bs : List Bool) (st : List (Bool × List Int)) : V := .agg [.bool v, boolsV bs, .isl false 2 (stV st)]
def ansK (v : Bool) (bs : List Bool) (st : List (Bool × List Int)) : List V := [.bool v, boolsV bs, .isl false 2 (stV st)]
theorem stepsV_st (st : List (Bool × List Int)) : stepsV st = stV st := rfl
theorem ansV_W (A : Ans) : ansV A = .tup [ansW A.valid A.vals A.steps, .int .i64 A.code] := rfl
theorem ansK_one (v : Bool) (bs : List Bool) (st : List (Bool × List Int)) : ∀ c ∈ ansK v bs st, c.one = true := by simp [ansK, V.one, boolsV]
theorem ansW_lend {A : Ans} {qv q : V} {qs : List V} {s : St} (h : AnsO σ0 A qv q qs s) : Frz s emp (.agg [.bool A.valid, qv, q]) (ansW A.valid A.vals A.steps) :=
  frz_agg (by exact ⟨.refl _, h.vals.frz (fun _ _ => rfl), h.lla.lend preS_ok, trivial⟩) (by simp [V.one, boolsV])
theorem eqAnswer_ok {v : Bool} {bs : List Bool} {st : List (Bool × List Int)} (h0 : bs.length ≤ 1048576) (h1 : st.length ≤ 1048576) (h2 : ∀ s ∈ st, s.2.length ≤ 1048576) : Ret Try.prog Γ 8 [ansW v bs st, ansW v bs st] σ (.bool true) σ := by
  have hdd : (!(v == v)) = false := by simp
  have hnt : (!true) = false := rfl
  refine ret_of c8_ok rfl ?_
  simp (disch := omega) only [c8, ansW, go_sem]
  refine SRun.boxR (by simp [ev, look, V.cells, V.one, boolsV]) ?_
  intro b2 hb2
  simp (disch := omega) only [go_sem]
  refine SRun.boxR (by simp [ev, look, V.cells, V.one, boolsV]) ?_
  intro b3 hb3
  have hσ : ∀ z x y, σ x = some y → upd (upd σ b2 [.bool v, boolsV bs, .isl false 2 (stV st)]) b3 z x = some y := fun z x y h => le_upd hb3 _ _ (le_upd hb2 _ _ h)
  have g2 : ∀ z, upd (upd σ b2 [.bool v, boolsV bs, .isl false 2 (stV st)]) b3 z b2 = some [.bool v, boolsV bs, .isl false 2 (stV st)] := fun z => le_upd hb3 _ _ (upd_same _ _ _)
  generalize upd σ b2 [.bool v, boolsV bs, .isl false 2 (stV st)] = s2 at *
  simp (disch := omega) only [g2, hdd, boolsV, go_sem]
  refine SRun.callR (eqBoolS_ok h0) ⟨[], rfl, rfl⟩ rfl ?_
  simp (disch := omega) only [g2, hnt, go_sem]
  refine SRun.callR (eqStepS_ok h1 h2) ⟨[], rfl, rfl⟩ rfl ?_
  simp (disch := omega) only [hnt, go_sem]
  exact W_retC c8_ok rfl (Conv.drop _ (hσ _)) ⟨rfl, rfl⟩
def lensS (st : List (Bool × List Int)) : List Nat := st.map fun s => s.2.length
theorem markAnswer_at {A : Ans} {qv q : V} {qs : List V} {k : Int} (hA : AnsO σ0 A qv q qs σ) (h0 : A.vals.length ≤ 1000) (h1 : A.steps.length ≤ 1000) (h2 : ∀ x ∈ A.steps, x.2.length ≤ 1000) (hk : 0 ≤ k ∧ k ≤ 1000) (he : endS (k + A.vals.length) (lensS A.steps) ≤ 100000000) :
    ACalls Try.prog Γ 11 [.agg [.bool A.valid, qv, q], .int .i64 k] σ fun r s => r = .int .i64 (endS (k + A.vals.length) (lensS A.steps)) ∧ AnsO σ0 ⟨A.valid, markB k A.vals.length, markS (k + A.vals.length) (lensS A.steps), A.code⟩ qv q qs s ∧ ∀ b, blk qv ≠ some b → blk q ≠ some b → (∀ m ∈ qs, blk m ≠ some b) → σ b ≠ none → s b = σ b := by
  have hv1 := hA.vals.one
  have hq1 := hA.lla.at_.one
  refine acalls_W c11_ok rfl ?_
  simp (disch := omega) only [c11, go_sem]
  refine SRun.boxR (by intro c hc; simp only [ev, look, V.cells, ↓reduceIte, List.mem_cons, List.not_mem_nil, or_false] at hc; rcases hc with rfl | rfl | rfl; rfl; exact hv1.1; exact hq1) ?_
  intro b2 hb2
  have g2 := upd_same σ b2 [.bool A.valid, qv, q]
  have hle := le_upd (cs := [.bool A.valid, qv, q]) hb2
  have hV : PreB (upd σ b2 [.bool A.valid, qv, q]) A.vals qv := by
    rcases hA.vals with ⟨h, h'⟩ | ⟨b, cap, rest, e, hb⟩
    · exact .inl ⟨h, h'⟩
    · exact .inr ⟨b, cap, rest, e, hle _ _ hb⟩
  have hL := hA.lla.mono hle
  have n2v : blk qv ≠ some b2 := fun e => by
    rcases hA.vals with ⟨_, _, rfl⟩ | ⟨b, cap, rest, rfl, hb⟩
    · cases e
    · simp only [blk, Option.some.injEq] at e
      subst e; rw [hb2] at hb; cases hb
  have n2q : blk q ≠ some b2 := fun e => hA.lla.blk_has (.inl e) hb2
  have n2s : ∀ m ∈ qs, blk m ≠ some b2 := fun m hm e => hA.lla.blk_has (.inr ⟨m, hm, e⟩) hb2
  have hold : ∀ b, σ b ≠ none → upd σ b2 [.bool A.valid, qv, q] b = σ b := fun b hb => upd_ne _ _ (fun e => by subst e; exact hb hb2)
  simp (disch := omega) only [go_sem]
  generalize upd σ b2 [.bool A.valid, qv, q] = s1 at *
  refine SRun.callQ (markBoolP_at hV (by omega) (by omega)) ⟨[], rfl, rfl⟩ rfl ?_
  rintro r s2 ⟨rfl, hV2, hfr⟩
  have g22 := (hfr b2 n2v).trans g2
  have hL2 := hL.to (t := s2) (fun b hb => hfr b fun e => hA.ap b e hb) (fun m hm b hb => hfr b fun e => hA.aps m hm b e hb)
  simp (disch := omega) only [g22, go_sem]
  refine SRun.callQ (markStepS_at (k := k + A.vals.length) hL2 h1 h2 (by omega) he) ⟨[], rfl, rfl⟩ rfl ?_
  rintro r s3 ⟨rfl, hL3, hfr3⟩
  simp (disch := omega) only [go_sem]
  refine W_retR c11_ok rfl ⟨rfl, ⟨?_, hA.vnew, hL3, hA.ap, hA.aps⟩, fun b e1 e2 e3 hb => (hfr3 b e2 e3).trans ((hfr b e1).trans (hold b hb))⟩
  rcases hV2 with h | ⟨b, cap, rest, e, hb⟩
  · exact .inl h
  · exact .inr ⟨b, cap, rest, e, by rw [hfr3 b (hA.ap b (by rw [e]; rfl)) (fun m hm => hA.aps m hm b (by rw [e]; rfl))]; exact hb⟩
theorem heldAnswer_ok {v : Bool} {n : Nat} {ls : List Nat} {k : Int} (hn : n ≤ 1000) (hl : ls.length ≤ 1000) (hs : ∀ x ∈ ls, x ≤ 1000) (hk : 0 ≤ k ∧ k ≤ 1000) (he : endS (k + n) ls ≤ 100000000) : Ret Try.prog Γ 12 [ansW v (markB k n) (markS (k + n) ls), .int .i64 k] σ (.int .i64 (endS (k + n) ls)) σ := by
  have hge := endS_ge ls (k + n)
  refine ret_of c12_ok rfl ?_
  simp (disch := omega) only [c12, ansW, go_sem]
  refine SRun.boxR (by simp [ev, look, V.cells, V.one, boolsV]) ?_
  intro b2 hb2
  have g2 := upd_same σ b2 [.bool v, boolsV (markB k n), .isl false 2 (stV (markS (k + n) ls))]
  have hσ := le_upd (cs := [.bool v, boolsV (markB k n), .isl false 2 (stV (markS (k + n) ls))]) hb2
  simp (disch := omega) only [go_sem]
  generalize upd σ b2 [.bool v, boolsV (markB k n), .isl false 2 (stV (markS (k + n) ls))] = s1 at *
  simp (disch := omega) only [g2, boolsV, go_sem]
  refine SRun.callR (heldBoolS_ok (n := n) (k := k) (by omega) (by omega)) ⟨[], rfl, rfl⟩ rfl ?_
  have d0 : decide (k + n < 0) = false := decide_eq_false (by omega)
  simp (disch := omega) only [d0, g2, go_sem]
  refine SRun.callR (heldStepS_ok (ls := ls) (k := k + n) (by omega) (fun x hx => by have := hs x hx; omega) (by omega) (by omega)) ⟨[], rfl, rfl⟩ rfl ?_
  have d1 : decide (endS (k + n) ls < 0) = false := decide_eq_false (by omega)
  simp (disch := omega) only [d1, go_sem]
  exact W_retC c12_ok rfl (Conv.drop _ hσ) ⟨rfl, rfl⟩
end Go.Proofs.Ytdenfjbhkdhlkaa.Lg
