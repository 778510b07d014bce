/- Clauses and numbers written, formulas compared. -/
import Derived.Test.YtlojopaebdnacaaDoorBu
import Derived.Test.YtlojopaebdnacaaDoorBg
import Derived.Test.YtlojopaebdnacaaDoorAh
import Derived.Test.YtlojopaebdnacaaDoorBb
import Derived.Test.YtlojopaebdnacaaDoorKp4
import Derived.Test.YtlojopaebdnacaaDoorBm
import Derived.Test.YtlojopaebdnacaaDoorBj
set_option linter.unusedSimpArgs false
set_option linter.unusedVariables false
namespace Go.Proofs.YtlojopaebdnacaaDoor.Lg
open Go Go.Lib
attribute [local irreducible] SRun DS DRun
variable {Γ : St} {σ σ0 : St}
theorem sameIntsT_ok {ex ex2 : Bool} {xs : List Int} (h1 : xs.length ≤ 1048576) : Ret Tryd.prog Γ 36 [.isl ex 1 (ints xs), .isl ex2 1 (ints xs)] σ (.bool true) σ := by
  refine ret_of c36_ok rfl ?_
  simp (disch := omega) only [c36, dec_same, go_sem]
  refine W_loopC (α := Nat) (fun i => i ≤ xs.length) (fun i => [(0, .isl ex 1 (ints xs)), (1, .isl ex2 1 (ints xs)), (5, .int .i64 (i : Nat))]) (fun i => σ) (fun i => xs.length - i) 0 (by omega) (by simp (disch := omega) only [subT, Int.natCast_add, Int.cast_ofNat_Int, go_sem] <;> (repeat' apply And.intro) <;> first | rfl | (congr 1; omega) | assumption) rfl ?_
  intro i hi ih
  simp (disch := omega) only [go_sem]
  first | refine iteW_dec (fun hq => ?_) (fun hq => ?_) | refine iteW_of (fun hq => ?_) (fun hq => ?_)
  · simp (disch := omega) only [go_sem]
    refine W_drawW ?_
    simp (disch := omega) only [dec_same, go_sem]
    exact ih (i + 1) _ _ (by omega) (by omega) (by simp (disch := omega) only [subT, Int.natCast_add, Int.cast_ofNat_Int, go_sem] <;> (repeat' apply And.intro) <;> first | rfl | (congr 1; omega) | assumption) rfl
  · simp (disch := omega) only [go_sem]
    exact W_retR c36_ok rfl ⟨rfl, rfl⟩
theorem sameCnfT_ok {v : Int} {ex ex2 : Bool} {cs : List (List Int)} (h1 : cs.length ≤ 1048576) (h2 : ∀ c ∈ cs, c.length ≤ 1048576) : Ret Tryd.prog Γ 11 [.agg [.int .i64 v, .isl ex 1 (clV cs)], .agg [.int .i64 v, .isl ex2 1 (clV cs)]] σ (.bool true) σ := by
  have hvv : (decide ¬ v = v) = false := by simp
  have hll : (decide ¬ ((cs.length : Nat) : Int) = (cs.length : Nat)) = false := by simp
  refine ret_of c11_ok rfl ?_
  simp (disch := omega) only [c11, go_sem]
  refine SRun.boxR (by simp [ev, look, V.cells, V.one]) ?_
  intro b2 hb2
  simp (disch := omega) only [go_sem]
  refine SRun.boxR (by simp [ev, look, V.cells, V.one]) ?_
  intro b3 hb3
  have g2 : ∀ z, upd (upd σ b2 [.int .i64 v, .isl ex 1 (clV cs)]) b3 z b2 = some [.int .i64 v, .isl ex 1 (clV cs)] := fun z => le_upd hb3 _ _ (upd_same _ _ _)
  have hσ : ∀ z x y, σ x = some y → upd (upd σ b2 [.int .i64 v, .isl ex 1 (clV cs)]) b3 z x = some y := fun z x y h => le_upd hb3 _ _ (le_upd hb2 _ _ h)
  have g2 := g2 [.int .i64 v, .isl ex2 1 (clV cs)]
  have hσ := hσ [.int .i64 v, .isl ex2 1 (clV cs)]
  have g3 := upd_same (upd σ b2 [.int .i64 v, .isl ex 1 (clV cs)]) b3 [.int .i64 v, .isl ex2 1 (clV cs)]
  simp (disch := omega) only [go_sem]
  generalize upd (upd σ b2 [.int .i64 v, .isl ex 1 (clV cs)]) b3 [.int .i64 v, .isl ex2 1 (clV cs)] = s2 at *
  simp (disch := omega) only [g2, g3, hvv, hll, go_sem]
  refine W_loopC (α := Nat) (fun i => i ≤ cs.length) (fun i => [(2, .ptr b2 0), (3, .ptr b3 0), (5, .int .i64 (i : Nat))]) (fun i => s2) (fun i => cs.length - i) 0 (by omega) (by simp (disch := omega) only [subT, Int.natCast_add, Int.cast_ofNat_Int, go_sem] <;> (repeat' apply And.intro) <;> first | rfl | (congr 1; omega) | assumption) rfl ?_
  intro i hi ih
  simp (disch := omega) only [g2, go_sem]
  first | refine iteW_dec (fun hq => ?_) (fun hq => ?_) | refine iteW_of (fun hq => ?_) (fun hq => ?_)
  · have hr := h2 _ (getD_mem [] (by omega : i < cs.length))
    simp (disch := omega) only [go_sem]
    refine W_drawW ?_
    simp (disch := omega) only [g2, g3, go_sem]
    refine DRun.callQ (sameIntsT_ok hr) ⟨[], rfl, rfl⟩ ?_
    rintro r s ⟨rfl, hs⟩
    obtain rfl := hs.symm
    simp (disch := omega) only [go_sem]
    exact ih (i + 1) _ _ (by omega) (by omega) (by simp (disch := omega) only [subT, Int.natCast_add, Int.cast_ofNat_Int, go_sem] <;> (repeat' apply And.intro) <;> first | rfl | (congr 1; omega) | assumption) rfl
  · simp (disch := omega) only [go_sem]
    exact W_retC c11_ok rfl (Conv.drop _ hσ) ⟨rfl, rfl⟩
def litT (x : Int) : List UInt8 := itoa x ++ [32]
theorem litT_len : ∀ c : List Int, (∀ x ∈ c, -1000000 ≤ x ∧ x ≤ 1000000) → (c.flatMap litT).length ≤ 9 * c.length := by
  intro c
  induction c with
  | nil => intro _; simp
  | cons x r ih =>
    intro h
    have h1 := ih fun y hy => h y (by simp [hy])
    obtain ⟨h2, h3⟩ := h x (by simp)
    have h4 := itoa_len h2 h3
    have h5 : (litT x).length = (itoa x).length + 1 := by simp [litT]
    rw [List.flatMap_cons, List.length_append, List.length_cons]; omega
theorem litT_take {c : List Int} {i : Nat} (h : i < c.length) : (c.take (i + 1)).flatMap litT = (c.take i).flatMap litT ++ (itoa (c.getD i 0) ++ [32]) := by
  rw [take_succ 0 h, List.flatMap_append]; simp [litT]
theorem clauseText_ok (hg : NumG Γ) {ex : Bool} {c : List Int} (hc : c.length ≤ 1000) (hx : ∀ x ∈ c, -1000000 ≤ x ∧ x ≤ 1000000) : Ret Tryd.prog Γ 31 [.isl ex 1 (ints c)] σ (.str (clauseT c)) σ := by
  have hln : ∀ i, ((c.take i).flatMap litT).length ≤ 9 * c.length := fun i => Nat.le_trans (litT_len _ fun x h => hx x (List.mem_of_mem_take h)) (by simp; omega)
  refine ret_of c31_ok rfl ?_
  simp (disch := omega) only [c31, go_sem]
  refine W_loopC (α := Nat) (fun i => i ≤ c.length) (fun i => [(3, .str ((c.take i).flatMap litT)), (6, .isl ex 1 (ints c)), (7, .int .i64 c.length), (8, .int .i64 (i : Nat))]) (fun i => σ) (fun i => c.length - i) 0 (by omega) (by simp (disch := omega) only [subT, Int.natCast_add, Int.cast_ofNat_Int, List.take_zero, List.flatMap_nil, go_sem] <;> (repeat' apply And.intro) <;> first | rfl | (congr 1; omega) | assumption) rfl ?_
  intro i hi ih
  have hli := hln i
  simp (disch := omega) only [go_sem]
  first | refine iteW_dec (fun hq => ?_) (fun hq => ?_) | refine iteW_of (fun hq => ?_) (fun hq => ?_)
  · have hi' : i < c.length := by omega
    obtain ⟨hx1, hx2⟩ := hx _ (getD_mem 0 hi')
    have htk := litT_take hi'
    have hil := itoa_len hx1 hx2
    simp (disch := omega) only [go_sem]
    generalize c.getD i 0 = x at *
    refine SRun.callR (Itoa_ok hg (by omega) (by omega)) ⟨[], rfl, rfl⟩ rfl ?_
    have hl1 : (itoa x ++ [32]).length ≤ 100 := by simp; omega
    simp (disch := omega) only [List.length_singleton, List.length_append, go_sem]
    exact ih (i + 1) _ _ (by omega) (by omega) (by simp (disch := omega) only [subT, Int.natCast_add, Int.cast_ofNat_Int, htk, go_sem] <;> (repeat' apply And.intro) <;> first | rfl | (congr 1; omega) | assumption) rfl
  · obtain rfl : i = c.length := by omega
    rw [List.take_length] at *
    simp (disch := omega) only [List.length_cons, List.length_nil, go_sem]
    exact W_retR c31_ok rfl ⟨rfl, rfl⟩
theorem digit_chr {m : Nat} (h : m < 10) : IntKind.u8.wrap (48 + (m : Int)) = ((UInt8.ofNat (48 + m)).toNat : Int) := by
  have h1 : (UInt8.ofNat (48 + m)).toNat = 48 + m := by rw [UInt8.toNat_ofNat']; omega
  rw [h1]
  have h2 : IntKind.u8.wrap (48 + (m : Int)) = (48 + (m : Int)) % 256 := by simp [IntKind.wrap, IntKind.signed, IntKind.bits]
  rw [h2]; omega
section
variable {P : Program} {f : FuncId} {n : Nat} {Q : V → St → Prop} {k : List It} {T : Ts} {g : GI} {l : List GI}
theorem stepW_b2s_one {ex : Bool} (c : UInt8) : stepW P Γ f n Q (.b2s (.c (.isl ex 1 [.int .u8 (c.toNat : Int)]))) g l k T σ = W P Γ f n Q (.ops l :: k) (putT T g.d (.str [c])) σ := by
  have h : u8of [V.int .u8 (c.toNat : Int)] = some [c] := u8of_u8s [c]
  simp [stepW, insW, pureI, ev, h]
end
set_option maxRecDepth 8000 in
theorem digits_pos : ∀ (m : Nat) (σ : St), m ≤ 1000000 → Ret Tryd.prog Γ 66 [.int .i64 (m : Int)] σ (.str (decDigits m)) σ := by
  intro m
  induction m using Nat.strongRecOn with
  | _ m ih =>
    intro σ hm
    have d0 : decide ((m : Int) = -9223372036854775808) = false := decide_eq_false (by omega)
    have d1 : decide ((m : Int) < 0) = false := decide_eq_false (by omega)
    have h10 : m % 10 < 10 := Nat.mod_lt _ (by omega)
    have hq : (m : Int).tdiv 10 = ((m / 10 : Nat) : Int) := by rw [Int.tdiv_eq_ediv_of_nonneg (by omega)]; omega
    have hr : (m : Int).tmod 10 = ((m % 10 : Nat) : Int) := by rw [Int.tmod_eq_emod_of_nonneg (by omega)]; omega
    by_cases h : m < 10
    · have d2 : decide ((m : Int) < 10) = true := decide_eq_true (by omega)
      rw [decDigits_small h]
      have hc := digit_chr h
      generalize UInt8.ofNat (48 + m) = dc at *
      refine ret_of c66_ok rfl ?_
      simp (disch := omega) only [c66, d0, d1, d2, hc, go_sem]
      rw [stepW_b2s_one]
      simp (disch := omega) only [go_sem]
      exact W_retR c66_ok rfl ⟨rfl, rfl⟩
    · have d2 : decide ((m : Int) < 10) = false := decide_eq_false (by omega)
      rw [decDigits_big h]
      have hc := digit_chr h10
      generalize UInt8.ofNat (48 + m % 10) = dc at *
      generalize m % 10 = m1 at *
      have ihm := ih (m / 10) (by omega)
      have hm2 : m / 10 ≤ 1000000 := by omega
      have hml := decDigits_len 6 (m / 10) (by have : (10:Nat) ^ (6 + 1) = 10000000 := by decide
                                               omega)
      generalize m / 10 = m2 at *
      refine ret_of c66_ok rfl ?_
      simp (disch := omega) only [c66, d0, d1, d2, go_sem]
      refine W_drawW ?_
      refine DRun.mixE rfl ?_
      simp (disch := omega) only [hq, hr, hc, go_sem]
      refine DS.callB (ihm _ hm2) ⟨[], rfl, rfl⟩ rfl rfl ?_
      simp (disch := omega) only [List.length_singleton, go_sem]
      exact W_retR c66_ok rfl ⟨rfl, rfl⟩
theorem digits_ok {n : Int} (h0 : -1000000 ≤ n) (h1 : n ≤ 1000000) : Ret Tryd.prog Γ 66 [.int .i64 n] σ (.str (itoa n)) σ := by
  have hl := decDigits_len 6 n.natAbs (by have : (10:Nat) ^ (6 + 1) = 10000000 := by decide
                                          omega)
  by_cases hn : n < 0
  · have d0 : decide (n = -9223372036854775808) = false := decide_eq_false (by omega)
    have d1 : decide (n < 0) = true := decide_eq_true hn
    have hi : itoa n = 45 :: decDigits n.natAbs := by unfold itoa; rw [if_pos hn]
    have hneg : (0 : Int) - n = (n.natAbs : Int) := by omega
    rw [hi]
    refine ret_of c66_ok rfl ?_
    simp (disch := omega) only [c66, d0, d1, hneg, go_sem]
    refine SRun.callR (digits_pos n.natAbs _ (by omega)) ⟨[], rfl, rfl⟩ rfl ?_
    simp (disch := omega) only [List.length_singleton, go_sem]
    exact W_retR c66_ok rfl ⟨rfl, rfl⟩
  · have hi : itoa n = decDigits n.natAbs := by unfold itoa; rw [if_neg hn]; congr 1; omega
    rw [hi]
    have := digits_pos (Γ := Γ) n.natAbs σ (by omega)
    rwa [show ((n.natAbs : Nat) : Int) = n by omega] at this
end Go.Proofs.YtlojopaebdnacaaDoor.Lg
/- Proofs written by the program. -/
set_option linter.unusedSimpArgs false
set_option linter.unusedVariables false
namespace Go.Proofs.YtlojopaebdnacaaDoor.Lg
open Go Go.Lib
attribute [local irreducible] SRun DS DRun
variable {Γ : St} {σ σ0 : St}
theorem BufAt.mono {l : List UInt8} {q : V} {s s' : St} (h : BufAt s l q) (hs : ∀ d c, s d = some c → s' d = some c) : BufAt s' l q := by
  rcases h with h | ⟨g, cap, h0, rfl, hg⟩
  · exact .inl h
  · exact .inr ⟨g, cap, h0, rfl, hs _ _ hg⟩
theorem BldAt.beside {b d : Nat} {l : List UInt8} {s : St} (h : BldAt σ0 b l s) (hd : s d = none) (z : List V) : BldAt (upd σ0 d z) b l (upd s d z) := by
  obtain ⟨hb0, p, q, hp, hb, hq, hqb, hn, hle⟩ := h
  have hbd : b ≠ d := fun e => by rw [e, hd] at hb; cases hb
  have hqd : blkB q ≠ some d := fun e => by
    rcases hq with ⟨_, rfl⟩ | ⟨g, cap, _, rfl, hg⟩
    · cases e
    · simp only [blkB, Option.some.injEq] at e; rw [e, hd] at hg; cases hg
  refine ⟨(upd_ne _ _ hbd).trans hb0, p, q, hp, (upd_ne _ _ hbd).trans hb, hq.mono (le_upd hd), hqb, fun x hx => (upd_ne _ _ (fun e => hqd (by rw [hx, e]))).trans (hn x hx), fun x c hx => ?_⟩
  by_cases e : x = d
  · subst e; rw [upd_same] at hx ⊢; exact hx
  · rw [upd_ne _ _ e] at hx ⊢; exact hle _ _ hx
theorem BldAt.less {b : Nat} {l : List UInt8} {s s0 : St} (h : BldAt σ0 b l s) (h0 : ∀ d c, s0 d = some c → σ0 d = some c) : BldAt s0 b l s := by
  obtain ⟨hb0, p, q, hp, hb, hq, hqb, hn, hle⟩ := h
  exact ⟨none_of h0 _ hb0, p, q, hp, hb, hq, hqb, fun x hx => none_of h0 _ (hn x hx), fun x c hx => hle _ _ (h0 _ _ hx)⟩
theorem clauseT_ne' (c : List Int) : clauseT c ≠ [] := by simp [clauseT]
theorem stepsV_eq (st : List (Bool × List Int)) : stepsV st = stV st := by
  simp only [stepsV, stV, elsF]
  rfl
theorem take_step {st : List (Bool × List Int)} {i : Nat} (h : i < st.length) : (st.take (i + 1)).flatMap stepT = (st.take i).flatMap stepT ++ stepT (st.getD i (false, [])) := by
  rw [take_succ (false, []) h, List.flatMap_append]; simp
theorem stepT_len {s : Bool × List Int} (h : s.2.length ≤ 12) (hx : ∀ x ∈ s.2, litOKt 40 x) : (stepT s).length ≤ 112 := by
  have := clauseT_len h hx
  unfold stepT
  rw [List.length_append]
  split <;> simp <;> omega
theorem steps_len : ∀ {st : List (Bool × List Int)}, (∀ s ∈ st, s.2.length ≤ 12 ∧ ∀ x ∈ s.2, litOKt 40 x) → (st.flatMap stepT).length ≤ 112 * st.length := by
  intro st
  induction st with
  | nil => intro _; simp
  | cons s r ih =>
    intro h
    have h1 := ih fun y hy => h y (by simp [hy])
    have h2 := stepT_len (h s (by simp)).1 (h s (by simp)).2
    rw [List.flatMap_cons, List.length_append, List.length_cons]; omega
set_option maxHeartbeats 1000000 in
theorem ProofText_ok (hg : NumG Γ) {st : List (Bool × List Int)} (hB : stepsB 40 st = true) (hn : st.length ≤ 200) (hc : ∀ s ∈ st, s.2.length ≤ 12 ∧ ∀ x ∈ s.2, litOKt 40 x) : Ret Tryd.prog Γ 18 [.isl false 2 (stV st)] σ (.tup [.str (proofT st), .int .i64 0]) σ := by
  have hlen2 : ∀ x y : V, [x, y].take 2 = [x, y] := fun _ _ => rfl
  have hsn := stV_len st
  have hnt : (!true) = false := rfl
  have hA := fun σ => areSteps_ok (Γ := Γ) (σ := σ) (ex := false) (st := st) (vars := 40) (by omega) (by omega) fun s h => by have := (hc s h).1; omega
  rw [hB, stepsV_eq] at hA
  have hcl : ∀ i, ((st.take i).flatMap stepT).length ≤ 112 * 200 := fun i => Nat.le_trans (steps_len fun s hs => hc s (List.mem_of_mem_take hs)) (by simp; omega)
  refine ret_of c18_ok rfl ?_
  simp (disch := omega) only [c18, go_sem]
  refine SRun.callR (hA _) ⟨[], rfl, rfl⟩ rfl ?_
  simp (disch := omega) only [hnt, go_sem]
  refine SRun.allocT ?_
  intro b4 hb4
  have hB := BldAt.start hb4
  generalize upd σ b4 [.bnil b4 49 2, .nsl] = s2 at *
  simp (disch := omega) only [go_sem]
  refine W_loopC (α := Nat × St) (fun a => a.1 ≤ st.length ∧ BldAt σ b4 ((st.take a.1).flatMap stepT) a.2) (fun a => [(4, .ptr b4 0), (15, .isl false 2 (stV st)), (16, .int .i64 st.length), (17, .int .i64 (a.1 : Nat))]) (fun a => a.2) (fun a => st.length - a.1) (0, s2) ⟨by simp, by simpa using hB⟩ (by simp (disch := omega) only [subT, Int.natCast_add, Int.cast_ofNat_Int, go_sem] <;> (repeat' apply And.intro) <;> first | rfl | (congr 1; omega) | assumption) rfl ?_
  clear hB
  rintro ⟨i, s⟩ ⟨hi, hB⟩ ih
  dsimp only at hi hB
  have hli := hcl i
  simp (disch := omega) only [go_sem]
  first | refine iteW_dec (fun hq => ?_) (fun hq => ?_) | refine iteW_of (fun hq => ?_) (fun hq => ?_)
  · have hi' : i < st.length := by omega
    obtain ⟨hc12, hcx⟩ := hc _ (getD_mem (false, []) hi')
    have htk := take_step hi'
    have hcT := clauseT_len hc12 hcx
    simp (disch := omega) only [go_sem]
    generalize st.getD i (false, []) = x at *
    obtain ⟨d, c⟩ := x
    dsimp only at hc12 hcx hcT
    refine SRun.allocR ?_
    intro b6 hb6
    have hbσ : σ b6 = none := none_of hB.le _ hb6
    have hB := hB.beside hb6 [.bool d, .isl false 1 (ints c)]
    have hσ6 : ∀ x y, σ x = some y → upd σ b6 [.bool d, .isl false 1 (ints c)] x = some y := le_upd hbσ
    have g6σ := upd_same σ b6 [.bool d, .isl false 1 (ints c)]
    have hsetR : sets [V.bool false, .isl true 0 []] 0 [.bool d, .isl false 1 (ints c)] = [.bool d, .isl false 1 (ints c)] := rfl
    simp (disch := omega) only [upd_same, upd_upd, hsetR, hlen2, go_sem]
    generalize upd s b6 [.bool d, .isl false 1 (ints c)] = s5 at *
    generalize upd σ b6 [.bool d, .isl false 1 (ints c)] = σ6 at *
    have hCT := fun σ => clauseText_ok (Γ := Γ) (σ := σ) hg (ex := false) (c := c) (by omega) (fun x hx => by have := (hcx x hx).2; omega)
    cases d with
    | true =>
      have hst : stepT (true, c) = [100, 32] ++ clauseT c := rfl
      simp (disch := omega) only [go_sem]
      refine SRun.callQ (WriteString_ok hB (s := [100, 32]) (by simp) (by simp only [List.length_cons, List.length_nil]; omega)) ⟨[], rfl, rfl⟩ rfl ?_
      rintro r s6 ⟨rfl, hB⟩
      have g6 := hB.le _ _ g6σ
      simp (disch := omega) only [g6, go_sem]
      refine SRun.callR (hCT _) ⟨[], rfl, rfl⟩ rfl ?_
      simp (disch := omega) only [go_sem]
      refine SRun.callQ (WriteString_ok hB (clauseT_ne' c) (by rw [List.length_append]; simp only [List.length_cons, List.length_nil]; omega)) ⟨[], rfl, rfl⟩ rfl ?_
      rintro r s7 ⟨rfl, hB⟩
      simp (disch := omega) only [go_sem]
      exact ih (i + 1, s7) _ _ ⟨by simp only; omega, by rw [htk, hst, ← List.append_assoc]; exact hB.less hσ6⟩ (by simp only; omega) (by simp (disch := omega) only [subT, Int.natCast_add, Int.cast_ofNat_Int, go_sem] <;> (repeat' apply And.intro) <;> first | rfl | (congr 1; omega) | assumption) rfl
    | false =>
      have hst : stepT (false, c) = clauseT c := rfl
      have g6 := hB.le _ _ g6σ
      simp (disch := omega) only [g6, go_sem]
      refine SRun.callR (hCT _) ⟨[], rfl, rfl⟩ rfl ?_
      simp (disch := omega) only [go_sem]
      refine SRun.callQ (WriteString_ok hB (clauseT_ne' c) (by omega)) ⟨[], rfl, rfl⟩ rfl ?_
      rintro r s7 ⟨rfl, hB⟩
      simp (disch := omega) only [go_sem]
      exact ih (i + 1, s7) _ _ ⟨by simp only; omega, by rw [htk, hst]; exact hB.less hσ6⟩ (by simp only; omega) (by simp (disch := omega) only [subT, Int.natCast_add, Int.cast_ofNat_Int, go_sem] <;> (repeat' apply And.intro) <;> first | rfl | (congr 1; omega) | assumption) rfl
  · obtain rfl : i = st.length := by omega
    rw [List.take_length] at *
    simp (disch := omega) only [go_sem]
    refine SRun.callR (String_ok hB (by omega)) ⟨[], rfl, rfl⟩ rfl ?_
    simp (disch := omega) only [go_sem]
    exact W_retR c18_ok rfl ⟨rfl, rfl⟩
end Go.Proofs.YtlojopaebdnacaaDoor.Lg
/- Proofs written by the reference; the law FnProofTexts over its code. -/
set_option linter.unusedSimpArgs false
set_option linter.unusedVariables false
namespace Go.Proofs.YtlojopaebdnacaaDoor.Lg
open Go Go.Lib
attribute [local irreducible] SRun DS DRun
variable {Γ : St} {σ σ0 : St}
/-- A text in the making: bytes that are owned, new. -/
def ByuAt (σ0 : St) (l : List UInt8) (q : V) (s : St) : Prop := At s 1 (u8s l) q ∧ (∀ b, blk q = some b → σ0 b = none) ∧ ∀ b c, σ0 b = some c → s b = some c
theorem ByuAt.app {l s : List UInt8} {q q' : V} {t t' : St} (h : ByuAt σ0 l q t) (ha : AppAt t 1 (u8s l ++ u8s s) q q' t') : ByuAt σ0 (l ++ s) q' t' := by
  obtain ⟨h1, h2, h3⟩ := h
  exact ⟨by rw [u8s_app]; exact ha.at_, ha.new (none_of h3) h2, fun b c hb => ha.get (h3 b c hb) (fun e => by rw [h2 b e] at hb; cases hb)⟩
theorem ByuAt.byt {l : List UInt8} {q : V} {s : St} (h : ByuAt σ0 l q s) : l = [] ∨ ∃ b cap, q = .msl b 1 0 l.length cap ∧ s b = some (u8s l) := by
  rcases h.1.2 with ⟨h1, es, rfl⟩ | ⟨b, cap, rfl, hb⟩
  · exact .inl (by simpa [u8s] using h1)
  · rw [flat_u8s] at hb
    rw [u8s_len]
    exact .inr ⟨b, cap, rfl, hb⟩
theorem src_strU {s : List UInt8} : srcV σ 1 (.str s) = some (flat (u8s s), s.length) := by rw [flat_u8s]; rfl
section
variable {P : Program} {f : FuncId} {n : Nat} {Q : V → St → Prop} {k : List It} {T : Ts} {g : GI} {l : List GI}
theorem stepW_b2s_nilU {ex : Bool} : stepW P Γ f n Q (.b2s (.c (.isl ex 1 []))) g l k T σ = W P Γ f n Q (.ops l :: k) (putT T g.d (.str [])) σ := by
  simp [stepW, insW, pureI, ev, u8of]
theorem stepW_b2s_mslU (b es off len cap : Nat) : stepW P Γ f n Q (.b2s (.c (.msl b es off len cap))) g l k T σ = SRun P Γ f n (.ops (g :: l) :: k) T σ Q := by
  simp [stepW, insW, pureI, ev]
end
theorem stepT_ne (s : Bool × List Int) : stepT s ≠ [] := by
  unfold stepT; intro h
  exact clauseT_ne' _ (List.append_eq_nil_iff.1 h).2
set_option maxHeartbeats 2000000 in
theorem l03Text_ok {st : List (Bool × List Int)} (hn : st.length ≤ 200) (hc : ∀ s ∈ st, s.2.length ≤ 12 ∧ ∀ x ∈ s.2, litOKt 40 x) : Ret Tryd.prog Γ 48 [.isl false 2 (stV st)] σ (.str (proofT st)) σ := by
  have hsn := stV_len st
  have hcl : ∀ i, ((st.take i).flatMap stepT).length ≤ 112 * 200 := fun i => Nat.le_trans (steps_len fun s hs => hc s (List.mem_of_mem_take hs)) (by simp; omega)
  have hB : ByuAt σ [] (.isl true 1 []) σ := ⟨⟨fun x hx => (by cases hx), .inl ⟨rfl, 1, rfl⟩⟩, fun b hb => (by cases hb), fun _ _ h => h⟩
  refine ret_of c48_ok rfl ?_
  simp (disch := omega) only [c48, List.replicate_zero, go_sem]
  refine W_loopC (α := Nat × V × St) (fun a => a.1 ≤ st.length ∧ ByuAt σ ((st.take a.1).flatMap stepT) a.2.1 a.2.2 ∧ (a.1 = 0 → a.2.1 = .isl true 1 [])) (fun a => [(0, .isl false 2 (stV st)), (3, a.2.1), (4, .int .i64 (a.1 : Nat))]) (fun a => a.2.2) (fun a => st.length - a.1) (0, .isl true 1 [], σ) ⟨by simp, by simpa using hB, fun _ => rfl⟩ (by simp (disch := omega) only [subT, Int.natCast_add, Int.cast_ofNat_Int, List.replicate_zero, go_sem] <;> (repeat' apply And.intro) <;> first | rfl | (congr 1; omega) | assumption) rfl ?_
  clear hB
  rintro ⟨i, q, s⟩ ⟨hi, hB, h0⟩ ih
  dsimp only at hi hB h0
  have hli := hcl i
  simp (disch := omega) only [go_sem]
  first | refine iteW_dec (fun hq => ?_) (fun hq => ?_) | refine iteW_of (fun hq => ?_) (fun hq => ?_)
  · have hi' : i < st.length := by omega
    obtain ⟨hc12, hcx⟩ := hc _ (getD_mem (false, []) hi')
    have htk := take_step hi'
    have hcT := clauseT_len hc12 hcx
    generalize hsg : st.getD i (false, []) = x at *
    obtain ⟨d, c⟩ := x
    dsimp only at hc12 hcx hcT
    have hln : ∀ k, ((c.take k).flatMap litT).length ≤ 9 * 12 := fun k => Nat.le_trans (litT_len _ fun x hx => by have := (hcx x (List.mem_of_mem_take hx)).2; omega) (by simp; omega)
    generalize hbase : (st.take i).flatMap stepT = base at *
    have hbl0 : base.length ≤ 22400 := by omega
    cases d
    case' true =>
      have hst : stepT (true, c) = [100, 32] ++ clauseT c := rfl
      simp (disch := omega) only [hsg, go_sem]
      refine SRun.appAt (ys := u8s [100, 32]) hB.1 (by exact src_strU) rfl (u8s_ok _) (by simp only [u8s_len, List.length_cons, List.length_nil]; omega) ?_
      intro q1 s1 hA
      have hB1 := hB.app hA
      have hbl : (base ++ [100, 32]).length ≤ 22402 := by simp; omega
      rw [hst, ← List.append_assoc] at htk
      generalize base ++ [100, 32] = base2 at *
      simp (disch := omega) only [hsg, go_sem]
    case' false =>
      have hst : stepT (false, c) = clauseT c := rfl
      rw [hst] at htk
      simp (disch := omega) only [hsg, go_sem]
      have hB1 := hB
      have hbl : base.length ≤ 22402 := by omega
      obtain ⟨q1, s1, base2, rfl, rfl, rfl⟩ : ∃ q1 s1 base2, q1 = q ∧ s1 = s ∧ base2 = base := ⟨_, _, _, rfl, rfl, rfl⟩
    all_goals
      refine W_loopC (α := Nat × V × St) (fun a => a.1 ≤ c.length ∧ ByuAt σ (base2 ++ (c.take a.1).flatMap litT) a.2.1 a.2.2) (fun a => [(0, .isl false 2 (stV st)), (3, a.2.1), (4, .int .i64 (i : Nat)), (5, .int .i64 (a.1 : Nat))]) (fun a => a.2.2) (fun a => c.length - a.1) (0, q1, s1) ⟨by simp, by simpa using hB1⟩ (by simp (disch := omega) only [subT, Int.natCast_add, Int.cast_ofNat_Int, go_sem] <;> (repeat' apply And.intro) <;> first | rfl | (congr 1; omega) | assumption) rfl ?_
      clear hB1
      rintro ⟨j, q, s⟩ ⟨hj, hB⟩ ih2
      dsimp only at hj hB
      have hlj := hln j
      simp (disch := omega) only [hsg, go_sem]
      first | refine iteW_dec (fun hq2 => ?_) (fun hq2 => ?_) | refine iteW_of (fun hq2 => ?_) (fun hq2 => ?_)
      · have hj' : j < c.length := by omega
        have hxx := (hcx _ (getD_mem 0 hj')).2
        have htk2 := litT_take hj'
        have hil := itoa_len (n := c.getD j 0) (by omega) (by omega)
        simp (disch := omega) only [hsg, go_sem]
        generalize c.getD j 0 = x at *
        refine SRun.callR (digits_ok (by omega) (by omega)) ⟨[], rfl, rfl⟩ rfl ?_
        simp (disch := omega) only [List.length_singleton, go_sem]
        refine SRun.appAt (ys := u8s (itoa x ++ [32])) hB.1 (by exact src_strU) (by rw [u8s_len]) (u8s_ok _) (by simp only [u8s_len, List.length_append, List.length_singleton]; omega) ?_
        intro q' s' hA
        simp (disch := omega) only [go_sem]
        exact ih2 (j + 1, q', s') _ _ ⟨by simp only; omega, by rw [htk2, ← List.append_assoc]; exact hB.app hA⟩ (by simp only; omega) (by simp (disch := omega) only [subT, Int.natCast_add, Int.cast_ofNat_Int, go_sem] <;> (repeat' apply And.intro) <;> first | rfl | (congr 1; omega) | assumption) rfl
      · obtain rfl : j = c.length := by omega
        rw [List.take_length] at *
        simp (disch := omega) only [go_sem]
        refine SRun.appAt (ys := u8s [48, 10]) hB.1 (by exact src_strU) rfl (u8s_ok _) (by simp only [u8s_len, List.length_append, List.length_cons, List.length_nil]; omega) ?_
        intro q' s' hA
        simp (disch := omega) only [go_sem]
        have hB2 := hB.app hA
        have hct : clauseT c = c.flatMap litT ++ [48, 10] := rfl
        rw [List.append_assoc, ← hct, ← htk] at hB2
        exact ih (i + 1, q', s') _ _ ⟨by simp only; omega, hB2, fun h => by simp only at h; omega⟩ (by simp only; omega) (by simp (disch := omega) only [subT, Int.natCast_add, Int.cast_ofNat_Int, go_sem] <;> (repeat' apply And.intro) <;> first | rfl | (congr 1; omega) | assumption) rfl
  · obtain rfl : i = st.length := by omega
    rw [List.take_length] at *
    simp (disch := omega) only [go_sem]
    have hpt : proofT st = st.flatMap stepT := rfl
    by_cases hz : st.length = 0
    · obtain rfl := h0 hz
      have hnil : st = [] := List.eq_nil_of_length_eq_zero hz
      rw [stepW_b2s_nilU]
      simp (disch := omega) only [go_sem]
      exact W_retC c48_ok rfl (Conv.drop _ hB.2.2) ⟨by rw [hpt, hnil]; rfl, rfl⟩
    · rcases hB.byt with h | ⟨b, cap, rfl, hb⟩
      · exfalso
        cases st with
        | nil => exact hz rfl
        | cons x r => exact stepT_ne x (List.append_eq_nil_iff.1 (by rw [List.flatMap_cons] at h; exact h)).1
      · rw [stepW_b2s_mslU]
        refine SRun.b2sR (bs := st.flatMap stepT) (.inr ⟨b, cap, rfl, hb⟩) ?_
        simp (disch := omega) only [go_sem]
        exact W_retC c48_ok rfl (Conv.drop _ hB.2.2) ⟨rfl, rfl⟩
theorem specProofText_ok {st : List (Bool × List Int)} (hB : stepsB 40 st = true) (hn : st.length ≤ 200) (hc : ∀ s ∈ st, s.2.length ≤ 12 ∧ ∀ x ∈ s.2, litOKt 40 x) : Ret Tryd.prog Γ 19 [.isl false 2 (stV st)] σ (.tup [.str (proofT st), .int .i64 0]) σ := by
  have hsn := stV_len st
  have hnt : (!true) = false := rfl
  have hA := fun σ => l03Steps_ok (Γ := Γ) (σ := σ) (ex := false) (st := st) (vars := 40) (by omega) (by omega) fun s h => by have := (hc s h).1; omega
  rw [hB, stepsV_eq] at hA
  refine ret_of c19_ok rfl ?_
  simp (disch := omega) only [c19, go_sem]
  refine SRun.callR (hA _) ⟨[], rfl, rfl⟩ rfl ?_
  simp (disch := omega) only [hnt, go_sem]
  refine SRun.callR (l03Text_ok hn hc) ⟨[], rfl, rfl⟩ rfl ?_
  simp (disch := omega) only [go_sem]
  exact W_retR c19_ok rfl ⟨rfl, rfl⟩
theorem sameSteps_ok {ex ex2 : Bool} {st : List (Bool × List Int)} (h1 : st.length ≤ 1048576) (h2 : ∀ s ∈ st, s.2.length ≤ 1048576) : Ret Tryd.prog Γ 21 [.isl ex 2 (stV st), .isl ex2 2 (stV st)] σ (.bool true) σ := by
  have hll : (decide ¬ ((st.length : Nat) : Int) = (st.length : Nat)) = false := by simp
  have hbb : ∀ b : Bool, (!(b == b)) = false := fun b => by simp
  have hnt : (!true) = false := rfl
  refine ret_of c21_ok rfl ?_
  simp (disch := omega) only [c21, hll, go_sem]
  refine W_loopC (α := Nat) (fun i => i ≤ st.length) (fun i => [(0, .isl ex 2 (stV st)), (1, .isl ex2 2 (stV st)), (5, .int .i64 (i : Nat))]) (fun i => σ) (fun i => st.length - i) 0 (by omega) (by simp (disch := omega) only [subT, Int.natCast_add, Int.cast_ofNat_Int, go_sem] <;> (repeat' apply And.intro) <;> first | rfl | (congr 1; omega) | assumption) rfl ?_
  intro i hi ih
  simp (disch := omega) only [go_sem]
  first | refine iteW_dec (fun hq => ?_) (fun hq => ?_) | refine iteW_of (fun hq => ?_) (fun hq => ?_)
  · have hr := h2 _ (getD_mem (false, []) (by omega : i < st.length))
    simp (disch := omega) only [go_sem]
    refine W_drawW ?_
    simp (disch := omega) only [hbb, go_sem]
    refine DRun.callG (sameIntsT_ok hr) ⟨[], rfl, rfl⟩ rfl ?_
    rintro r s ⟨rfl, hs⟩
    obtain rfl := hs.symm
    simp (disch := omega) only [hnt, go_sem]
    exact ih (i + 1) _ _ (by omega) (by omega) (by simp (disch := omega) only [subT, Int.natCast_add, Int.cast_ofNat_Int, go_sem] <;> (repeat' apply And.intro) <;> first | rfl | (congr 1; omega) | assumption) rfl
  · simp (disch := omega) only [go_sem]
    exact W_retR c21_ok rfl ⟨rfl, rfl⟩
end Go.Proofs.YtlojopaebdnacaaDoor.Lg
/- The law FnProofTexts over its code. -/
set_option linter.unusedSimpArgs false
set_option linter.unusedVariables false
namespace Go.Proofs.YtlojopaebdnacaaDoor.Lg
open Go Go.Lib
attribute [local irreducible] SRun DS DRun
variable {Γ : St} {σ σ0 : St}
theorem ProofText_bad {st : List (Bool × List Int)} (hB : stepsB 40 st = false) (hn : st.length ≤ 4096) (hc : ∀ s ∈ st, s.2.length ≤ 12) : Ret Tryd.prog Γ 18 [.isl false 2 (stV st)] σ (.tup [.str [], .int .i64 1]) σ := by
  have hsn := stV_len st
  have hnt : (!false) = true := rfl
  have hA := fun σ => areSteps_ok (Γ := Γ) (σ := σ) (ex := false) (st := st) (vars := 40) (by omega) (by omega) fun s h => by have := hc s h; omega
  rw [hB, stepsV_eq] at hA
  refine ret_of c18_ok rfl ?_
  simp (disch := omega) only [c18, go_sem]
  refine SRun.callR (hA _) ⟨[], rfl, rfl⟩ rfl ?_
  simp (disch := omega) only [hnt, go_sem]
  exact W_retR c18_ok rfl ⟨rfl, rfl⟩
theorem specProofText_bad {st : List (Bool × List Int)} (hB : stepsB 40 st = false) (hn : st.length ≤ 4096) (hc : ∀ s ∈ st, s.2.length ≤ 12) : Ret Tryd.prog Γ 19 [.isl false 2 (stV st)] σ (.tup [.str [], .int .i64 1]) σ := by
  have hsn := stV_len st
  have hnt : (!false) = true := rfl
  have hA := fun σ => l03Steps_ok (Γ := Γ) (σ := σ) (ex := false) (st := st) (vars := 40) (by omega) (by omega) fun s h => by have := hc s h; omega
  rw [hB, stepsV_eq] at hA
  refine ret_of c19_ok rfl ?_
  simp (disch := omega) only [c19, go_sem]
  refine SRun.callR (hA _) ⟨[], rfl, rfl⟩ rfl ?_
  simp (disch := omega) only [hnt, go_sem]
  exact W_retR c19_ok rfl ⟨rfl, rfl⟩
theorem ReadProofT_ok (hg : NumG Γ) {t : List UInt8} (hl : t.length ≤ 10000000) : Ret Tryd.prog Γ 20 [.str t] σ (.tup [.isl false 2 (stV (proofP t).1), .int .i64 (proofP t).2.1, .int .i64 (proofP t).2.2]) σ :=
  (ReadProof_own hg hl).conv fun r s ⟨hle, q, qs, e, h⟩ => by
    subst e
    exact ⟨_, _, ⟨hle, frz_tup (by exact ⟨(h.conv preS_ok hle).2, .refl _, .refl _, trivial⟩)⟩, rfl, rfl⟩
set_option maxHeartbeats 2000000 in
theorem fnProofTexts_ok (hg : NumG Γ) {ex ex2 : Bool} {code more : List UInt8} (hl : code.length ≤ 140737488355328) (hl2 : more.length ≤ 140737488355328) : Ret Tryd.prog Γ 5 [codeV ex code, codeV ex2 more] σ (.bool true) σ := by
  have hcl : (codeV ex code) = .isl ex 1 (code.map fun c => .int .u8 (c.toNat : Int)) := rfl
  have hcl2 : (codeV ex2 more) = .isl ex2 1 (more.map fun c => .int .u8 (c.toNat : Int)) := rfl
  have hcm : (code.map fun c => V.int .u8 (c.toNat : Int)).length = code.length := by simp
  have hcm2 : (more.map fun c => V.int .u8 (c.toNat : Int)).length = more.length := by simp
  have dd0 : decide ((0 : Int) = 0) = true := rfl
  have dd1 : decide ((1 : Int) = 1) = true := rfl
  by_cases e1 : code.length > 1048576
  · have d1 : decide ((code.length : Int) > 1048576) = true := decide_eq_true (by omega)
    refine ret_of c5_ok rfl ?_
    simp (disch := omega) only [c5, hcl, hcl2, hcm, hcm2, d1, go_sem]
    exact W_retR c5_ok rfl ⟨rfl, rfl⟩
  have d1 : decide ((code.length : Int) > 1048576) = false := decide_eq_false (by omega)
  by_cases e2 : more.length > 1048576
  · have d2 : decide ((more.length : Int) > 1048576) = true := decide_eq_true (by omega)
    refine ret_of c5_ok rfl ?_
    simp (disch := omega) only [c5, hcl, hcl2, hcm, hcm2, d1, d2, go_sem]
    exact W_retR c5_ok rfl ⟨rfl, rfl⟩
  have d2 : decide ((more.length : Int) > 1048576) = false := decide_eq_false (by omega)
  refine ret_of c5_ok rfl ?_
  simp (disch := omega) only [c5, hcl, hcl2, hcm, hcm2, d1, d2, go_sem]
  refine SRun.callQ (cnfOf_ok (ex := ex) hl) ⟨[], rfl, rfl⟩ rfl ?_
  rintro r s ⟨vars, cls, hd, rfl, hs⟩
  obtain rfl := hs.symm
  have hb := cnfB_of hd
  have hv : 1 ≤ vars := hd.1
  have hv6 : vars ≤ 6 := hd.2.1
  simp (disch := omega) only [go_sem]
  refine SRun.callQ (stepsOf_ok (ex := ex2) hl2 hv hb) ⟨[], rfl, rfl⟩ rfl ?_
  rintro r s ⟨st, hn, hst, rfl, hs⟩
  obtain rfl := hs.symm
  rw [stepsV_eq]
  have hsn := stV_len st
  have hc : ∀ s ∈ st, s.2.length ≤ 12 ∧ ∀ x ∈ s.2, litOKt 40 x := fun s hs => ⟨(hst s hs).1, fun x hx => by obtain ⟨a, b, c⟩ := (hst s hs).2 x hx; exact ⟨a, by omega, by omega⟩⟩
  by_cases h200 : st.length ≤ 200
  · have hB : stepsB 40 st = true := by
      simp only [stepsB, stepB, clauseB, litB, Bool.and_eq_true, decide_eq_true_eq, List.all_eq_true, bne_iff_ne, ne_eq]
      exact ⟨h200, fun s hs => ⟨(hc s hs).1, fun x hx => by obtain ⟨a, b, c⟩ := (hc s hs).2 x hx; exact ⟨a, b, c⟩⟩⟩
    have hpl : (proofT st).length ≤ 65536 := by
      have := steps_len hc
      have hpt : proofT st = st.flatMap stepT := rfl
      rw [hpt]; omega
    have hPT := fun σ => ProofText_ok (Γ := Γ) (σ := σ) hg hB h200 hc
    have hST := fun σ => specProofText_ok (Γ := Γ) (σ := σ) hB h200 hc
    have hRP := fun σ => ReadProofT_ok (Γ := Γ) (σ := σ) hg (t := proofT st) (by omega)
    rw [proof_read h200 hc hpl] at hRP
    dsimp only at hRP
    generalize proofT st = T at *
    have htt : (T == T) = true := by simp
    have d3 : decide ((st.length : Int) > 200) = false := decide_eq_false (by omega)
    simp (disch := omega) only [go_sem]
    refine SRun.callR (hPT _) ⟨[], rfl, rfl⟩ rfl ?_
    simp (disch := omega) only [go_sem]
    refine SRun.callR (hST _) ⟨[], rfl, rfl⟩ rfl ?_
    simp (disch := omega) only [go_sem]
    refine SRun.callR (hRP _) ⟨[], rfl, rfl⟩ rfl ?_
    simp (disch := omega) only [d3, dd0, htt, go_sem]
    refine SRun.callR (sameSteps_ok (by omega) (fun s hs => by have := (hc s hs).1; omega)) ⟨[], rfl, rfl⟩ rfl ?_
    simp (disch := omega) only [go_sem]
    exact W_retR c5_ok rfl ⟨rfl, rfl⟩
  · have hB : stepsB 40 st = false := by
      unfold stepsB
      rw [decide_eq_false h200]; rfl
    have hPT := fun σ => ProofText_bad (Γ := Γ) (σ := σ) hB (by omega) (fun s hs => (hc s hs).1)
    have hST := fun σ => specProofText_bad (Γ := Γ) (σ := σ) hB (by omega) (fun s hs => (hc s hs).1)
    have hRP := fun σ => ReadProofT_ok (Γ := Γ) (σ := σ) hg (t := []) (by simp)
    generalize proofP [] = R at *
    have d3 : decide ((st.length : Int) > 200) = true := decide_eq_true (by omega)
    simp (disch := omega) only [go_sem]
    refine SRun.callR (hPT _) ⟨[], rfl, rfl⟩ rfl ?_
    simp (disch := omega) only [go_sem]
    refine SRun.callR (hST _) ⟨[], rfl, rfl⟩ rfl ?_
    simp (disch := omega) only [go_sem]
    refine SRun.callR (hRP _) ⟨[], rfl, rfl⟩ rfl ?_
    simp (disch := omega) only [d3, dd1, go_sem]
    exact W_retR c5_ok rfl ⟨rfl, rfl⟩
end Go.Proofs.YtlojopaebdnacaaDoor.Lg
