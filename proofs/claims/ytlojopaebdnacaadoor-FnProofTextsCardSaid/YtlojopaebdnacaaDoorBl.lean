/- The law of proofs read alike, its parts: steps compared, marked, held. -/
import Derived.Test.YtlojopaebdnacaaDoorBj
set_option linter.unusedSimpArgs false
set_option linter.unusedVariables false
namespace Go.Proofs.YtlojopaebdnacaaDoor.Lg
open Go Go.Lib
attribute [local irreducible] SRun DS DRun
variable {Γ : St} {σ σ0 : St}
theorem dec_same {α : Type} [DecidableEq α] (a : α) : decide (a = a) = true := decide_eq_true rfl
theorem eqIntS_ok {ex ex2 : Bool} {xs : List Int} (h1 : xs.length ≤ 1048576) : Ret Tryd.prog Γ 70 [.isl ex 1 (ints xs), .isl ex2 1 (ints xs)] σ (.bool true) σ := by
  refine ret_of c70_ok rfl ?_
  simp (disch := omega) only [c70, dec_same, go_sem]
  refine W_loopC (α := Nat) (fun i => i ≤ xs.length) (fun i => [(0, .isl ex 1 (ints xs)), (1, .isl ex2 1 (ints xs)), (5, .int .i64 (i : Nat))]) (fun i => σ) (fun i => xs.length - i) 0 (by omega) (by simp (disch := omega) only [subT, Int.natCast_add, Int.cast_ofNat_Int, go_sem] <;> (repeat' apply And.intro) <;> first | rfl | (congr 1; omega) | assumption) rfl ?_
  intro i hi ih
  simp (disch := omega) only [go_sem]
  first | refine iteW_dec (fun hq => ?_) (fun hq => ?_) | refine iteW_of (fun hq => ?_) (fun hq => ?_)
  · simp (disch := omega) only [go_sem]
    refine W_drawW ?_
    simp (disch := omega) only [dec_same, go_sem]
    exact ih (i + 1) _ _ (by omega) (by omega) (by simp (disch := omega) only [subT, Int.natCast_add, Int.cast_ofNat_Int, go_sem] <;> (repeat' apply And.intro) <;> first | rfl | (congr 1; omega) | assumption) rfl
  · simp (disch := omega) only [go_sem]
    exact W_retR c70_ok rfl ⟨rfl, rfl⟩
def upFrom (k : Int) (n : Nat) : List Int := (List.range n).map fun i : Nat => k + i
theorem upFrom_len (k : Int) (n : Nat) : (upFrom k n).length = n := by simp [upFrom]
theorem upFrom_at {k : Int} {n i : Nat} (h : i < n) : (upFrom k n).getD i 0 = k + i := by simp [upFrom, List.getD, h]
def partI (k : Int) (xs : List Int) (i : Nat) : List Int := upFrom k i ++ xs.drop i
theorem partI_len {k : Int} {xs : List Int} {i : Nat} (h : i ≤ xs.length) : (partI k xs i).length = xs.length := by simp [partI, upFrom_len]; omega
theorem partI_zero (k : Int) (xs : List Int) : partI k xs 0 = xs := by simp [partI, upFrom]
theorem partI_all (k : Int) (xs : List Int) : partI k xs xs.length = upFrom k xs.length := by simp [partI]
theorem partI_set {k : Int} {xs : List Int} {i : Nat} (h : i < xs.length) : (partI k xs i).set i (k + i) = partI k xs (i + 1) := by
  unfold partI
  rw [List.set_append_right _ _ (by rw [upFrom_len]; exact Nat.le_refl _), upFrom_len, Nat.sub_self, List.drop_eq_getElem_cons h, List.set_cons_zero]
  simp [upFrom, List.range_succ]
theorem ints_setI (xs : List Int) (i : Nat) (x : Int) : (ints xs).set i (.int .i64 x) = ints (xs.set i x) := by simp [ints, List.map_set]
theorem markIntS_at {xs : List Int} {q : V} {k : Int} (h : At σ 1 (ints xs) q) (hl : xs.length ≤ 1048576) (hk : 0 ≤ k ∧ k ≤ 1000000000) : ACalls Tryd.prog Γ 53 [q, .int .i64 k] σ fun r s => r = .int .i64 (k + xs.length) ∧ s = wrt σ q (ints (upFrom k xs.length)) := by
  rcases h.2 with ⟨h0, es', rfl⟩ | ⟨b, cap, rfl, hb⟩
  · have hx : xs = [] := by simpa [ints] using h0
    subst hx
    refine acalls_W c53_ok rfl ?_
    simp (disch := omega) only [c53, go_sem]
    refine W_loopC (α := Unit) (fun _ => True) (fun _ => [(0, .isl true es' []), (1, .int .i64 k), (5, .int .i64 0)]) (fun _ => σ) (fun _ => 0) () trivial (by simp (disch := omega) only [subT, Int.natCast_add, Int.cast_ofNat_Int, go_sem] <;> (repeat' apply And.intro) <;> first | rfl | (congr 1; omega) | assumption) rfl ?_
    intro _ _ _
    simp (disch := omega) only [List.length_nil, go_sem]
    exact W_retR c53_ok rfl ⟨by simp [look], rfl⟩
  · rw [ints_len, wrt_msl]
    rw [flat_ints] at hb
    refine acalls_W c53_ok rfl ?_
    simp (disch := omega) only [c53, go_sem]
    refine W_loopC (α := Nat) (fun i => i ≤ xs.length) (fun i => [(0, .msl b 1 0 xs.length cap), (1, .int .i64 (k + i)), (5, .int .i64 (i : Nat))]) (fun i => upd σ b (ints (partI k xs i))) (fun i => xs.length - i) 0 (by omega) (by simp (disch := omega) only [subT, Int.natCast_add, Int.cast_ofNat_Int, Int.natCast_zero, Int.add_zero, go_sem] <;> (repeat' apply And.intro) <;> first | rfl | (congr 1; omega) | assumption) (by rw [partI_zero]; exact upd_self _ hb) ?_
    intro i hi ih
    have g := upd_same σ b (ints (partI k xs i))
    have hpl := partI_len (k := k) hi
    simp (disch := omega) only [go_sem]
    first | refine iteW_dec (fun h1 => ?_) (fun h1 => ?_) | refine iteW_of (fun h1 => ?_) (fun h1 => ?_)
    · simp (disch := omega) only [g, ints_len, hpl, go_sem]
      rw [ints_setI, partI_set (by omega)]
      exact ih (i + 1) _ _ (by omega) (by omega) (by simp (disch := omega) only [subT, Int.natCast_add, Int.cast_ofNat_Int, go_sem] <;> (repeat' apply And.intro) <;> first | rfl | (congr 1; omega) | assumption) rfl
    · have hil : i = xs.length := by omega
      subst hil
      rw [partI_all]
      simp (disch := omega) only [go_sem]
      exact W_retR c53_ok rfl ⟨rfl, rfl⟩
theorem heldIntS_ok {ex : Bool} {n : Nat} {k : Int} (hl : n ≤ 1048576) (hk : 0 ≤ k ∧ k ≤ 1000000000) : Ret Tryd.prog Γ 54 [.isl ex 1 (ints (upFrom k n)), .int .i64 k] σ (.int .i64 (k + n)) σ := by
  have hul := upFrom_len k n
  refine ret_of c54_ok rfl ?_
  simp (disch := omega) only [c54, go_sem]
  refine W_loopC (α := Nat) (fun i => i ≤ n) (fun i => [(0, .isl ex 1 (ints (upFrom k n))), (1, .int .i64 (k + i)), (5, .int .i64 (i : Nat))]) (fun _ => σ) (fun i => n - i) 0 (by omega) (by simp (disch := omega) only [subT, Int.natCast_add, Int.cast_ofNat_Int, Int.natCast_zero, Int.add_zero, go_sem] <;> (repeat' apply And.intro) <;> first | rfl | (congr 1; omega) | assumption) rfl ?_
  intro i hi ih
  simp (disch := omega) only [hul, go_sem]
  first | refine iteW_dec (fun h1 => ?_) (fun h1 => ?_) | refine iteW_of (fun h1 => ?_) (fun h1 => ?_)
  · have hat := upFrom_at (k := k) (n := n) (i := i) (by omega)
    have hne : (decide ¬ (k + (i : Int)) = k + i) = false := by simp
    simp (disch := omega) only [hul, hat, hne, go_sem]
    exact ih (i + 1) _ _ (by omega) (by omega) (by simp (disch := omega) only [subT, Int.natCast_add, Int.cast_ofNat_Int, go_sem] <;> (repeat' apply And.intro) <;> first | rfl | (congr 1; omega) | assumption) rfl
  · have hil : i = n := by omega
    subst hil
    simp (disch := omega) only [go_sem]
    exact W_retR c54_ok rfl ⟨rfl, rfl⟩
def stV (st : List (Bool × List Int)) : List V := elsF preS rowS 1 st
theorem stV_len (st : List (Bool × List Int)) : (stV st).length = st.length := by simp [stV, elsF]
theorem stV_at {st : List (Bool × List Int)} {i : Nat} (h : i < st.length) : (stV st).getD i .undef = .agg [.bool (st.getD i (false, [])).1, .isl false 1 (ints (st.getD i (false, [])).2)] := by
  simp [stV, elsF, List.getD, h, elV, preS, rowS]
section
variable {P : Program} {f : FuncId} {n : Nat} {Q : V → St → Prop} {k : List It} {T : Ts} {g : GI} {l : List GI}
theorem stepW_iaddr_st {ex : Bool} {st : List (Bool × List Int)} {kk : IntKind} {m : Int} (h0 : 0 ≤ m) (h1 : m < st.length) : stepW P Γ f n Q (.iaddr 2 (.c (.isl ex 2 (stV st))) (.c (.int kk m))) g l k T σ = W P Γ f n Q (.ops l :: k) (putT T g.d (.iptr [.bool (st.getD m.toNat (false, [])).1, .isl false 1 (ints (st.getD m.toNat (false, [])).2)])) σ := by
  have hm : m.toNat < st.length := by omega
  rw [stepW_iaddr_at h0 (by rw [stV_len]; exact h1), stV_at hm]; rfl
theorem stepK_iaddr_st {K : V → St → Prop} {ex : Bool} {st : List (Bool × List Int)} {kk : IntKind} {m : Int} (h0 : 0 ≤ m) (h1 : m < st.length) : stepK (.iaddr 2 (.c (.isl ex 2 (stV st))) (.c (.int kk m))) σ K = K (.iptr [.bool (st.getD m.toNat (false, [])).1, .isl false 1 (ints (st.getD m.toNat (false, [])).2)]) σ := by
  have hm : m.toNat < st.length := by omega
  have e : (stV st)[m.toNat]? = some (.agg [.bool (st.getD m.toNat (false, [])).1, .isl false 1 (ints (st.getD m.toNat (false, [])).2)]) := by
    rw [← stV_at hm]; exact getD_some _ (by rw [stV_len]; omega)
  simp only [stepK_iaddr_isl, h0, e, if_true]; rfl
end
attribute [go_sem] stepW_iaddr_st stepK_iaddr_st stV_len
theorem eqStep_ok {d : Bool} {c : List Int} (h1 : c.length ≤ 1048576) : Ret Tryd.prog Γ 52 [.agg [.bool d, .isl false 1 (ints c)], .agg [.bool d, .isl false 1 (ints c)]] σ (.bool true) σ := by
  have hdd : (!(d == d)) = false := by simp
  refine ret_of c52_ok rfl ?_
  simp (disch := omega) only [c52, go_sem]
  refine SRun.boxR (by simp [ev, look, V.cells, V.one]) ?_
  intro b2 hb2
  simp (disch := omega) only [go_sem]
  refine SRun.boxR (by simp [ev, look, V.cells, V.one]) ?_
  intro b3 hb3
  have g2 : ∀ z, upd (upd σ b2 [.bool d, .isl false 1 (ints c)]) b3 z b2 = some [.bool d, .isl false 1 (ints c)] := fun z => le_upd hb3 _ _ (upd_same _ _ _)
  have hσ : ∀ z x y, σ x = some y → upd (upd σ b2 [.bool d, .isl false 1 (ints c)]) b3 z x = some y := fun z x y h => le_upd hb3 _ _ (le_upd hb2 _ _ h)
  generalize upd σ b2 [.bool d, .isl false 1 (ints c)] = s2 at *
  simp (disch := omega) only [g2, hdd, go_sem]
  refine SRun.callR (eqIntS_ok h1) ⟨[], rfl, rfl⟩ rfl ?_
  simp (disch := omega) only [go_sem]
  exact W_retC c52_ok rfl (Conv.drop _ (hσ _)) ⟨rfl, rfl⟩
theorem eqStepS_ok {ex ex2 : Bool} {st : List (Bool × List Int)} (h1 : st.length ≤ 1048576) (h2 : ∀ s ∈ st, s.2.length ≤ 1048576) : Ret Tryd.prog Γ 23 [.isl ex 2 (stV st), .isl ex2 2 (stV st)] σ (.bool true) σ := by
  have hlen2 : ∀ x y : V, [x, y].take 2 = [x, y] := fun _ _ => rfl
  refine ret_of c23_ok rfl ?_
  simp (disch := omega) only [c23, dec_same, go_sem]
  refine W_loopC (α := Nat) (fun i => i ≤ st.length) (fun i => [(0, .isl ex 2 (stV st)), (1, .isl ex2 2 (stV st)), (5, .int .i64 (i : Nat))]) (fun i => σ) (fun i => st.length - i) 0 (by omega) (by simp (disch := omega) only [subT, Int.natCast_add, Int.cast_ofNat_Int, go_sem] <;> (repeat' apply And.intro) <;> first | rfl | (congr 1; omega) | assumption) rfl ?_
  intro i hi ih
  simp (disch := omega) only [go_sem]
  first | refine iteW_dec (fun hq => ?_) (fun hq => ?_) | refine iteW_of (fun hq => ?_) (fun hq => ?_)
  · have hr := h2 _ (getD_mem (false, []) (by omega : i < st.length))
    simp (disch := omega) only [go_sem]
    refine W_drawW ?_
    simp (disch := omega) only [hlen2, go_sem]
    refine DRun.callQ (eqStep_ok hr) ⟨[], rfl, rfl⟩ ?_
    rintro r s ⟨rfl, hs⟩
    obtain rfl := hs.symm
    simp (disch := omega) only [go_sem]
    exact ih (i + 1) _ _ (by omega) (by omega) (by simp (disch := omega) only [subT, Int.natCast_add, Int.cast_ofNat_Int, go_sem] <;> (repeat' apply And.intro) <;> first | rfl | (congr 1; omega) | assumption) rfl
  · simp (disch := omega) only [go_sem]
    exact W_retR c23_ok rfl ⟨rfl, rfl⟩
/-! Marks on steps -/
def endS : Int → List Nat → Int
  | k, [] => k
  | k, n :: r => endS (k + 1 + n) r
def markS : Int → List Nat → List (Bool × List Int)
  | _, [] => []
  | k, n :: r => (decide (k.tmod 3 = 0), upFrom (k + 1) n) :: markS (k + 1 + n) r
theorem markS_len : ∀ (ls : List Nat) (k : Int), (markS k ls).length = ls.length := by
  intro ls
  induction ls with
  | nil => intro k; rfl
  | cons n r ih => intro k; simp [markS, ih]
theorem markS_at : ∀ (ls : List Nat) (k : Int) (i : Nat), i < ls.length → (markS k ls).getD i (false, []) = (decide ((endS k (ls.take i)).tmod 3 = 0), upFrom (endS k (ls.take i) + 1) (ls.getD i 0)) := by
  intro ls
  induction ls with
  | nil => intro k i h; simp at h
  | cons n r ih =>
    intro k i h
    cases i with
    | zero => rfl
    | succ i =>
      have := ih (k + 1 + n) i (by simpa using h)
      simpa [markS, endS] using this
theorem endS_succ : ∀ (ls : List Nat) (k : Int) (i : Nat), i < ls.length → endS k (ls.take (i + 1)) = endS k (ls.take i) + 1 + (ls.getD i 0 : Nat) := by
  intro ls
  induction ls with
  | nil => intro k i h; simp at h
  | cons n r ih =>
    intro k i h
    cases i with
    | zero => simp [endS]
    | succ i => simpa [endS] using ih (k + 1 + n) i (by simpa using h)
theorem endS_ge : ∀ (ls : List Nat) (k : Int), k ≤ endS k ls := by
  intro ls
  induction ls with
  | nil => intro k; simp [endS]
  | cons n r ih => intro k; have := ih (k + 1 + n); simp only [endS]; omega
theorem endS_app : ∀ (a b : List Nat) (k : Int), endS k (a ++ b) = endS (endS k a) b := by
  intro a
  induction a with
  | nil => intro b k; rfl
  | cons n r ih => intro b k; simp only [List.cons_append, endS]; exact ih b _
theorem endS_take {ls : List Nat} {k : Int} (i : Nat) : k ≤ endS k (ls.take i) ∧ endS k (ls.take i) ≤ endS k ls := by
  refine ⟨endS_ge _ _, ?_⟩
  have := endS_app (ls.take i) (ls.drop i) k
  rw [List.take_append_drop] at this
  rw [this]; exact endS_ge _ _
def mixS (k : Int) (st : List (Bool × List Int)) (i : Nat) : List (Bool × List Int) := (markS k (st.map fun s => s.2.length)).take i ++ st.drop i
theorem heldStepS_ok {ex : Bool} {ls : List Nat} {k : Int} (hl : ls.length ≤ 1048576) (hn : ∀ n ∈ ls, n ≤ 1048576) (hk : 0 ≤ k) (he : endS k ls ≤ 1000000000) : Ret Tryd.prog Γ 25 [.isl ex 2 (stV (markS k ls)), .int .i64 k] σ (.int .i64 (endS k ls)) σ := by
  have hml := markS_len ls k
  refine ret_of c25_ok rfl ?_
  simp (disch := omega) only [c25, go_sem]
  refine W_loopC (α := Nat) (fun i => i ≤ ls.length) (fun i => [(0, .isl ex 2 (stV (markS k ls))), (1, .int .i64 (endS k (ls.take i))), (5, .int .i64 (i : Nat))]) (fun _ => σ) (fun i => ls.length - i) 0 (by omega) (by simp (disch := omega) only [subT, Int.natCast_add, Int.cast_ofNat_Int, List.take_zero, endS, go_sem] <;> (repeat' apply And.intro) <;> first | rfl | (congr 1; omega) | assumption) rfl ?_
  intro i hi ih
  simp (disch := omega) only [hml, go_sem]
  first | refine iteW_dec (fun h1 => ?_) (fun h1 => ?_) | refine iteW_of (fun h1 => ?_) (fun h1 => ?_)
  · have hi' : i < ls.length := by omega
    have hat := markS_at ls k i hi'
    have hsu := endS_succ ls k i hi'
    obtain ⟨t1, t2⟩ := endS_take (ls := ls) (k := k) i
    obtain ⟨u1, u2⟩ := endS_take (ls := ls) (k := k) (i + 1)
    have hni := hn _ (getD_mem 0 hi')
    generalize endS k (ls.take i) = p at *
    have hbb : ∀ b : Bool, (!(b == b)) = false := fun b => by simp
    have hln : (upFrom (p + 1) (ls.getD i 0)).length = ls.getD i 0 := upFrom_len _ _
    simp (disch := omega) only [hml, hat, hbb, go_sem]
    refine SRun.callR (heldIntS_ok (n := ls.getD i 0) (k := p + 1) hni (by omega)) ⟨[], rfl, rfl⟩ rfl ?_
    have hd : decide (p + 1 + ((ls.getD i 0 : Nat) : Int) < 0) = false := decide_eq_false (by omega)
    simp (disch := omega) only [hd, go_sem]
    refine ih (i + 1) _ _ (by omega) (by omega) ?_ rfl
    rw [hsu]
    exact (by simp (disch := omega) only [subT, Int.natCast_add, Int.cast_ofNat_Int, go_sem] <;> (repeat' apply And.intro) <;> first | rfl | (congr 1; omega) | assumption)
  · have hil : i = ls.length := by omega
    subst hil
    rw [List.take_length] at *
    simp (disch := omega) only [go_sem]
    exact W_retR c25_ok rfl ⟨by simp [look], rfl⟩
end Go.Proofs.YtlojopaebdnacaaDoor.Lg
