/- Clauses and numbers written, formulas compared. -/
import Derived.Test.YtlojopaebdnacaaDoorBu
import Derived.Test.YtlojopaebdnacaaDoorBg
import Derived.Test.YtlojopaebdnacaaDoorAh
import Derived.Test.YtlojopaebdnacaaDoorBb
import Derived.Test.YtlojopaebdnacaaDoorK1
import Derived.Test.YtlojopaebdnacaaDoorBr
set_option linter.unusedSimpArgs false
set_option linter.unusedVariables false
namespace Go.Proofs.YtlojopaebdnacaaDoor.Lg
open Go Go.Lib
attribute [local irreducible] SRun DS DRun
variable {Γ : St} {σ σ0 : St}
theorem sameIntsT_ok {ex ex2 : Bool} {xs : List Int} (h1 : xs.length ≤ 1048576) : Ret Tryd.prog Γ 36 [.isl ex 1 (ints xs), .isl ex2 1 (ints xs)] σ (.bool true) σ := by
  refine ret_of c36_ok rfl ?_
  simp (disch := omega) only [c36, dec_same, go_sem]
  refine W_loopC (α := Nat) (fun i => i ≤ xs.length) (fun i => [(0, .isl ex 1 (ints xs)), (1, .isl ex2 1 (ints xs)), (5, .int .i64 (i : Nat))]) (fun i => σ) (fun i => xs.length - i) 0 (by omega) (by simp (disch := omega) only [subT, Int.natCast_add, Int.cast_ofNat_Int, go_sem] <;> (repeat' apply And.intro) <;> first | rfl | (congr 1; omega) | assumption) rfl ?_
  intro i hi ih
  simp (disch := omega) only [go_sem]
  first | refine iteW_dec (fun hq => ?_) (fun hq => ?_) | refine iteW_of (fun hq => ?_) (fun hq => ?_)
  · simp (disch := omega) only [go_sem]
    refine W_drawW ?_
    simp (disch := omega) only [dec_same, go_sem]
    exact ih (i + 1) _ _ (by omega) (by omega) (by simp (disch := omega) only [subT, Int.natCast_add, Int.cast_ofNat_Int, go_sem] <;> (repeat' apply And.intro) <;> first | rfl | (congr 1; omega) | assumption) rfl
  · simp (disch := omega) only [go_sem]
    exact W_retR c36_ok rfl ⟨rfl, rfl⟩
theorem sameCnfT_ok {v : Int} {ex ex2 : Bool} {cs : List (List Int)} (h1 : cs.length ≤ 1048576) (h2 : ∀ c ∈ cs, c.length ≤ 1048576) : Ret Tryd.prog Γ 11 [.agg [.int .i64 v, .isl ex 1 (clV cs)], .agg [.int .i64 v, .isl ex2 1 (clV cs)]] σ (.bool true) σ := by
  have hvv : (decide ¬ v = v) = false := by simp
  have hll : (decide ¬ ((cs.length : Nat) : Int) = (cs.length : Nat)) = false := by simp
  refine ret_of c11_ok rfl ?_
  simp (disch := omega) only [c11, go_sem]
  refine SRun.boxR (by simp [ev, look, V.cells, V.one]) ?_
  intro b2 hb2
  simp (disch := omega) only [go_sem]
  refine SRun.boxR (by simp [ev, look, V.cells, V.one]) ?_
  intro b3 hb3
  have g2 : ∀ z, upd (upd σ b2 [.int .i64 v, .isl ex 1 (clV cs)]) b3 z b2 = some [.int .i64 v, .isl ex 1 (clV cs)] := fun z => le_upd hb3 _ _ (upd_same _ _ _)
  have hσ : ∀ z x y, σ x = some y → upd (upd σ b2 [.int .i64 v, .isl ex 1 (clV cs)]) b3 z x = some y := fun z x y h => le_upd hb3 _ _ (le_upd hb2 _ _ h)
  have g2 := g2 [.int .i64 v, .isl ex2 1 (clV cs)]
  have hσ := hσ [.int .i64 v, .isl ex2 1 (clV cs)]
  have g3 := upd_same (upd σ b2 [.int .i64 v, .isl ex 1 (clV cs)]) b3 [.int .i64 v, .isl ex2 1 (clV cs)]
  simp (disch := omega) only [go_sem]
  generalize upd (upd σ b2 [.int .i64 v, .isl ex 1 (clV cs)]) b3 [.int .i64 v, .isl ex2 1 (clV cs)] = s2 at *
  simp (disch := omega) only [g2, g3, hvv, hll, go_sem]
  refine W_loopC (α := Nat) (fun i => i ≤ cs.length) (fun i => [(2, .ptr b2 0), (3, .ptr b3 0), (5, .int .i64 (i : Nat))]) (fun i => s2) (fun i => cs.length - i) 0 (by omega) (by simp (disch := omega) only [subT, Int.natCast_add, Int.cast_ofNat_Int, go_sem] <;> (repeat' apply And.intro) <;> first | rfl | (congr 1; omega) | assumption) rfl ?_
  intro i hi ih
  simp (disch := omega) only [g2, go_sem]
  first | refine iteW_dec (fun hq => ?_) (fun hq => ?_) | refine iteW_of (fun hq => ?_) (fun hq => ?_)
  · have hr := h2 _ (getD_mem [] (by omega : i < cs.length))
    simp (disch := omega) only [go_sem]
    refine W_drawW ?_
    simp (disch := omega) only [g2, g3, go_sem]
    refine DRun.callQ (sameIntsT_ok hr) ⟨[], rfl, rfl⟩ ?_
    rintro r s ⟨rfl, hs⟩
    obtain rfl := hs.symm
    simp (disch := omega) only [go_sem]
    exact ih (i + 1) _ _ (by omega) (by omega) (by simp (disch := omega) only [subT, Int.natCast_add, Int.cast_ofNat_Int, go_sem] <;> (repeat' apply And.intro) <;> first | rfl | (congr 1; omega) | assumption) rfl
  · simp (disch := omega) only [go_sem]
    exact W_retC c11_ok rfl (Conv.drop _ hσ) ⟨rfl, rfl⟩
def litT (x : Int) : List UInt8 := itoa x ++ [32]
theorem litT_len : ∀ c : List Int, (∀ x ∈ c, -1000000 ≤ x ∧ x ≤ 1000000) → (c.flatMap litT).length ≤ 9 * c.length := by
  intro c
  induction c with
  | nil => intro _; simp
  | cons x r ih =>
    intro h
    have h1 := ih fun y hy => h y (by simp [hy])
    obtain ⟨h2, h3⟩ := h x (by simp)
    have h4 := itoa_len h2 h3
    have h5 : (litT x).length = (itoa x).length + 1 := by simp [litT]
    rw [List.flatMap_cons, List.length_append, List.length_cons]; omega
theorem litT_take {c : List Int} {i : Nat} (h : i < c.length) : (c.take (i + 1)).flatMap litT = (c.take i).flatMap litT ++ (itoa (c.getD i 0) ++ [32]) := by
  rw [take_succ 0 h, List.flatMap_append]; simp [litT]
theorem clauseText_ok (hg : NumG Γ) {ex : Bool} {c : List Int} (hc : c.length ≤ 1000) (hx : ∀ x ∈ c, -1000000 ≤ x ∧ x ≤ 1000000) : Ret Tryd.prog Γ 31 [.isl ex 1 (ints c)] σ (.str (clauseT c)) σ := by
  have hln : ∀ i, ((c.take i).flatMap litT).length ≤ 9 * c.length := fun i => Nat.le_trans (litT_len _ fun x h => hx x (List.mem_of_mem_take h)) (by simp; omega)
  refine ret_of c31_ok rfl ?_
  simp (disch := omega) only [c31, go_sem]
  refine W_loopC (α := Nat) (fun i => i ≤ c.length) (fun i => [(3, .str ((c.take i).flatMap litT)), (6, .isl ex 1 (ints c)), (7, .int .i64 c.length), (8, .int .i64 (i : Nat))]) (fun i => σ) (fun i => c.length - i) 0 (by omega) (by simp (disch := omega) only [subT, Int.natCast_add, Int.cast_ofNat_Int, List.take_zero, List.flatMap_nil, go_sem] <;> (repeat' apply And.intro) <;> first | rfl | (congr 1; omega) | assumption) rfl ?_
  intro i hi ih
  have hli := hln i
  simp (disch := omega) only [go_sem]
  first | refine iteW_dec (fun hq => ?_) (fun hq => ?_) | refine iteW_of (fun hq => ?_) (fun hq => ?_)
  · have hi' : i < c.length := by omega
    obtain ⟨hx1, hx2⟩ := hx _ (getD_mem 0 hi')
    have htk := litT_take hi'
    have hil := itoa_len hx1 hx2
    simp (disch := omega) only [go_sem]
    generalize c.getD i 0 = x at *
    refine SRun.callR (Itoa_ok hg (by omega) (by omega)) ⟨[], rfl, rfl⟩ rfl ?_
    have hl1 : (itoa x ++ [32]).length ≤ 100 := by simp; omega
    simp (disch := omega) only [List.length_singleton, List.length_append, go_sem]
    exact ih (i + 1) _ _ (by omega) (by omega) (by simp (disch := omega) only [subT, Int.natCast_add, Int.cast_ofNat_Int, htk, go_sem] <;> (repeat' apply And.intro) <;> first | rfl | (congr 1; omega) | assumption) rfl
  · obtain rfl : i = c.length := by omega
    rw [List.take_length] at *
    simp (disch := omega) only [List.length_cons, List.length_nil, go_sem]
    exact W_retR c31_ok rfl ⟨rfl, rfl⟩
theorem digit_chr {m : Nat} (h : m < 10) : IntKind.u8.wrap (48 + (m : Int)) = ((UInt8.ofNat (48 + m)).toNat : Int) := by
  have h1 : (UInt8.ofNat (48 + m)).toNat = 48 + m := by rw [UInt8.toNat_ofNat']; omega
  rw [h1]
  have h2 : IntKind.u8.wrap (48 + (m : Int)) = (48 + (m : Int)) % 256 := by simp [IntKind.wrap, IntKind.signed, IntKind.bits]
  rw [h2]; omega
section
variable {P : Program} {f : FuncId} {n : Nat} {Q : V → St → Prop} {k : List It} {T : Ts} {g : GI} {l : List GI}
theorem stepW_b2s_one {ex : Bool} (c : UInt8) : stepW P Γ f n Q (.b2s (.c (.isl ex 1 [.int .u8 (c.toNat : Int)]))) g l k T σ = W P Γ f n Q (.ops l :: k) (putT T g.d (.str [c])) σ := by
  have h : u8of [V.int .u8 (c.toNat : Int)] = some [c] := u8of_u8s [c]
  simp [stepW, insW, pureI, ev, h]
end
set_option maxRecDepth 8000 in
theorem digits_pos : ∀ (m : Nat) (σ : St), m ≤ 1000000 → Ret Tryd.prog Γ 66 [.int .i64 (m : Int)] σ (.str (decDigits m)) σ := by
  intro m
  induction m using Nat.strongRecOn with
  | _ m ih =>
    intro σ hm
    have d0 : decide ((m : Int) = -9223372036854775808) = false := decide_eq_false (by omega)
    have d1 : decide ((m : Int) < 0) = false := decide_eq_false (by omega)
    have h10 : m % 10 < 10 := Nat.mod_lt _ (by omega)
    have hq : (m : Int).tdiv 10 = ((m / 10 : Nat) : Int) := by rw [Int.tdiv_eq_ediv_of_nonneg (by omega)]; omega
    have hr : (m : Int).tmod 10 = ((m % 10 : Nat) : Int) := by rw [Int.tmod_eq_emod_of_nonneg (by omega)]; omega
    by_cases h : m < 10
    · have d2 : decide ((m : Int) < 10) = true := decide_eq_true (by omega)
      rw [decDigits_small h]
      have hc := digit_chr h
      generalize UInt8.ofNat (48 + m) = dc at *
      refine ret_of c66_ok rfl ?_
      simp (disch := omega) only [c66, d0, d1, d2, hc, go_sem]
      rw [stepW_b2s_one]
      simp (disch := omega) only [go_sem]
      exact W_retR c66_ok rfl ⟨rfl, rfl⟩
    · have d2 : decide ((m : Int) < 10) = false := decide_eq_false (by omega)
      rw [decDigits_big h]
      have hc := digit_chr h10
      generalize UInt8.ofNat (48 + m % 10) = dc at *
      generalize m % 10 = m1 at *
      have ihm := ih (m / 10) (by omega)
      have hm2 : m / 10 ≤ 1000000 := by omega
      have hml := decDigits_len 6 (m / 10) (by have : (10:Nat) ^ (6 + 1) = 10000000 := by decide
                                               omega)
      generalize m / 10 = m2 at *
      refine ret_of c66_ok rfl ?_
      simp (disch := omega) only [c66, d0, d1, d2, go_sem]
      refine W_drawW ?_
      refine DRun.mixE rfl ?_
      simp (disch := omega) only [hq, hr, hc, go_sem]
      refine DS.callB (ihm _ hm2) ⟨[], rfl, rfl⟩ rfl rfl ?_
      simp (disch := omega) only [List.length_singleton, go_sem]
      exact W_retR c66_ok rfl ⟨rfl, rfl⟩
theorem digits_ok {n : Int} (h0 : -1000000 ≤ n) (h1 : n ≤ 1000000) : Ret Tryd.prog Γ 66 [.int .i64 n] σ (.str (itoa n)) σ := by
  have hl := decDigits_len 6 n.natAbs (by have : (10:Nat) ^ (6 + 1) = 10000000 := by decide
                                          omega)
  by_cases hn : n < 0
  · have d0 : decide (n = -9223372036854775808) = false := decide_eq_false (by omega)
    have d1 : decide (n < 0) = true := decide_eq_true hn
    have hi : itoa n = 45 :: decDigits n.natAbs := by unfold itoa; rw [if_pos hn]
    have hneg : (0 : Int) - n = (n.natAbs : Int) := by omega
    rw [hi]
    refine ret_of c66_ok rfl ?_
    simp (disch := omega) only [c66, d0, d1, hneg, go_sem]
    refine SRun.callR (digits_pos n.natAbs _ (by omega)) ⟨[], rfl, rfl⟩ rfl ?_
    simp (disch := omega) only [List.length_singleton, go_sem]
    exact W_retR c66_ok rfl ⟨rfl, rfl⟩
  · have hi : itoa n = decDigits n.natAbs := by unfold itoa; rw [if_neg hn]; congr 1; omega
    rw [hi]
    have := digits_pos (Γ := Γ) n.natAbs σ (by omega)
    rwa [show ((n.natAbs : Nat) : Int) = n by omega] at this
end Go.Proofs.YtlojopaebdnacaaDoor.Lg
/- Formulas written by the program. -/
set_option linter.unusedSimpArgs false
set_option linter.unusedVariables false
namespace Go.Proofs.YtlojopaebdnacaaDoor.Lg
open Go Go.Lib
attribute [local irreducible] SRun DS DRun
variable {Γ : St} {σ σ0 : St}
theorem clsV_eq (cls : List (List Int)) : clsV cls = clV cls := by
  simp only [clsV, clV, elsF]
  rfl
theorem cnfV_eq (vars : Int) (cls : List (List Int)) : cnfV vars cls = .agg [.int .i64 vars, .isl false 1 (clV cls)] := by rw [cnfV, clsV_eq]
theorem cnfB_all {vars : Int} {cls : List (List Int)} (h : cnfB vars cls = true) : (0 ≤ vars ∧ vars ≤ 40) ∧ cls.length ≤ 300 ∧ ∀ c ∈ cls, c.length ≤ 12 ∧ ∀ x ∈ c, litOKt vars x := by
  simp only [cnfB, Bool.and_eq_true, decide_eq_true_eq, List.all_eq_true] at h
  refine ⟨⟨h.1.1.1, h.1.1.2⟩, h.1.2, fun c hc => ?_⟩
  have h2 := h.2 c hc
  simp only [clauseB, Bool.and_eq_true, decide_eq_true_eq, List.all_eq_true] at h2
  refine ⟨h2.1, fun x hx => ?_⟩
  have h3 := h2.2 x hx
  simp only [litB, Bool.and_eq_true, decide_eq_true_eq, bne_iff_ne, ne_eq] at h3
  exact ⟨h3.1, h3.2.1, h3.2.2⟩
def dimH (vars : Int) (n : Nat) : List UInt8 := [112, 32, 99, 110, 102, 32] ++ itoa vars ++ [32] ++ itoa n ++ [10]
theorem dimH_len {vars : Int} {n : Nat} (hv : 0 ≤ vars ∧ vars ≤ 40) (hn : n ≤ 300) : (dimH vars n).length ≤ 30 := by
  have h1 := itoa_len (n := vars) (by omega) (by omega)
  have h2 := itoa_len (n := (n : Int)) (by omega) (by omega)
  simp [dimH]; omega
theorem dimT_eq (vars : Int) (cls : List (List Int)) : dimT vars cls = dimH vars cls.length ++ cls.flatMap clauseT := rfl
theorem clauseT_lit (c : List Int) : clauseT c = c.flatMap litT ++ [48, 10] := rfl
theorem clauseT_ne (c : List Int) : clauseT c ≠ [] := by simp [clauseT]
theorem take_clause {cls : List (List Int)} {i : Nat} (h : i < cls.length) : (cls.take (i + 1)).flatMap clauseT = (cls.take i).flatMap clauseT ++ clauseT (cls.getD i []) := by
  rw [take_succ [] h, List.flatMap_append]; simp
theorem isCnfT_ok {vars : Int} {cls : List (List Int)} (h : cnfB vars cls = true) : Ret Tryd.prog Γ 28 [.agg [.int .i64 vars, .isl false 1 (clV cls)]] σ (.bool true) σ := by
  have := isCnf_ok (Γ := Γ) (σ := σ) (vars := vars) (clsOK_of h).1.1
  rwa [h, cnfV_eq] at this
theorem specOKT_ok {vars : Int} {cls : List (List Int)} (h : cnfB vars cls = true) : Ret Tryd.prog Γ 33 [.agg [.int .i64 vars, .isl false 1 (clV cls)]] σ (.bool true) σ := by
  have := cnfOK_ok (Γ := Γ) (σ := σ) h
  rwa [cnfV_eq] at this
set_option maxHeartbeats 1000000 in
theorem DimacsText_ok (hg : NumG Γ) {vars : Int} {cls : List (List Int)} (h : cnfB vars cls = true) : Ret Tryd.prog Γ 8 [.agg [.int .i64 vars, .isl false 1 (clV cls)]] σ (.tup [.str (dimT vars cls), .int .i64 0]) σ := by
  obtain ⟨hv, hn, hc⟩ := cnfB_all h
  have hlen2 : ∀ x y : V, [x, y].take 2 = [x, y] := fun _ _ => rfl
  have hH := dimH_len hv hn
  have hl1 := itoa_len (n := vars) (by omega) (by omega)
  have hl2 := itoa_len (n := (cls.length : Int)) (by omega) (by omega)
  have hcl : ∀ i, ((cls.take i).flatMap clauseT).length ≤ 110 * 300 := fun i => Nat.le_trans (cls_len hv.2 fun c hc' => hc c (List.mem_of_mem_take hc')) (by simp; omega)
  rw [dimT_eq]
  have hHd : 112 :: 32 :: 99 :: 110 :: 102 :: 32 :: (itoa vars ++ [32] ++ itoa (cls.length : Int) ++ [10]) = dimH vars cls.length := by simp [dimH]
  have hH0 : dimH vars cls.length ≠ [] := by simp [dimH]
  have hnt : (!true) = false := rfl
  refine ret_of c8_ok rfl ?_
  simp (disch := omega) only [c8, go_sem]
  refine SRun.boxR (by simp [ev, look, V.cells, V.one]) ?_
  intro b1 hb1
  have g1 := upd_same σ b1 [.int .i64 vars, .isl false 1 (clV cls)]
  have hσ := le_upd (cs := [V.int .i64 vars, .isl false 1 (clV cls)]) hb1
  simp (disch := omega) only [upd_same, hlen2, go_sem]
  generalize upd σ b1 [.int .i64 vars, .isl false 1 (clV cls)] = s1 at *
  refine SRun.callR (isCnfT_ok h) ⟨[], rfl, rfl⟩ rfl ?_
  simp (disch := omega) only [hnt, go_sem]
  refine SRun.allocT ?_
  intro b4 hb4
  have hB := BldAt.start hb4
  have g1' := hB.le _ _ g1
  generalize upd s1 b4 [.bnil b4 49 2, .nsl] = s2 at *
  simp (disch := omega) only [go_sem]
  refine W_drawW ?_
  refine DRun.mixE rfl ?_
  simp (disch := omega) only [g1', go_sem]
  refine DS.callB (Itoa_ok hg (by omega) (by omega)) ⟨[], rfl, rfl⟩ rfl rfl ?_
  simp (disch := omega) only [List.length_append, List.length_cons, List.length_nil, go_sem]
  refine DS.callB (Itoa_ok hg (by omega) (by omega)) ⟨[], rfl, rfl⟩ rfl rfl ?_
  simp (disch := omega) only [List.length_append, List.length_cons, List.length_nil, go_sem]
  rw [hHd]
  refine DRun.callQ (WriteString_ok hB hH0 (by simp; omega)) ⟨[], rfl, rfl⟩ ?_
  rintro r s3 ⟨rfl, hB⟩
  rw [List.nil_append] at hB
  have g1' := hB.le _ _ g1
  generalize dimH vars cls.length = hd at *
  simp (disch := omega) only [g1', go_sem]
  refine W_loopC (α := Nat × St) (fun a => a.1 ≤ cls.length ∧ BldAt s1 b4 (hd ++ (cls.take a.1).flatMap clauseT) a.2) (fun a => [(4, .ptr b4 0), (23, .isl false 1 (clV cls)), (24, .int .i64 cls.length), (25, .int .i64 (a.1 : Nat))]) (fun a => a.2) (fun a => cls.length - a.1) (0, s3) ⟨by simp, by simpa using hB⟩ (by simp (disch := omega) only [subT, Int.natCast_add, Int.cast_ofNat_Int, go_sem] <;> (repeat' apply And.intro) <;> first | rfl | (congr 1; omega) | assumption) rfl ?_
  rintro ⟨i, s⟩ ⟨hi, hB⟩ ih
  dsimp only at hi hB
  have hli := hcl i
  simp (disch := omega) only [go_sem]
  first | refine iteW_dec (fun hq => ?_) (fun hq => ?_) | refine iteW_of (fun hq => ?_) (fun hq => ?_)
  · have hi' : i < cls.length := by omega
    obtain ⟨hc12, hcx⟩ := hc _ (getD_mem [] hi')
    have htk := take_clause hi'
    have hcT := clauseT_len hc12 (fun x hx => ⟨(hcx x hx).1, by have := (hcx x hx).2; omega, by have := (hcx x hx).2; omega⟩)
    simp (disch := omega) only [go_sem]
    generalize cls.getD i [] = c at *
    refine SRun.callR (clauseText_ok hg (by omega) (fun x hx => by have := (hcx x hx).2; omega)) ⟨[], rfl, rfl⟩ rfl ?_
    simp (disch := omega) only [go_sem]
    refine SRun.callQ (WriteString_ok hB (clauseT_ne c) (by rw [List.length_append]; omega)) ⟨[], rfl, rfl⟩ rfl ?_
    rintro r s4 ⟨rfl, hB⟩
    simp (disch := omega) only [go_sem]
    exact ih (i + 1, s4) _ _ ⟨by simp only; omega, by rw [htk, ← List.append_assoc]; exact hB⟩ (by simp only; omega) (by simp (disch := omega) only [subT, Int.natCast_add, Int.cast_ofNat_Int, go_sem] <;> (repeat' apply And.intro) <;> first | rfl | (congr 1; omega) | assumption) rfl
  · obtain rfl : i = cls.length := by omega
    rw [List.take_length] at *
    simp (disch := omega) only [go_sem]
    refine SRun.callR (String_ok hB (by rw [List.length_append]; omega)) ⟨[], rfl, rfl⟩ rfl ?_
    simp (disch := omega) only [go_sem]
    exact W_retC c8_ok rfl (Conv.drop _ hσ) ⟨rfl, rfl⟩
end Go.Proofs.YtlojopaebdnacaaDoor.Lg
/- Formulas written by the reference; the law FnDimacs over its code. -/
set_option linter.unusedSimpArgs false
set_option linter.unusedVariables false
namespace Go.Proofs.YtlojopaebdnacaaDoor.Lg
open Go Go.Lib
attribute [local irreducible] SRun DS DRun
variable {Γ : St} {σ σ0 : St}
/-- A text in the making: bytes that are owned, new. -/
def BytAt (σ0 : St) (l : List UInt8) (q : V) (s : St) : Prop := At s 1 (u8s l) q ∧ (∀ b, blk q = some b → σ0 b = none) ∧ ∀ b c, σ0 b = some c → s b = some c
theorem BytAt.of {l : List UInt8} {q : V} {s : St} (h : OwnL σ0 1 (u8s l) q s) : BytAt σ0 l q s := by
  obtain ⟨h1, h2⟩ := h.atQ
  refine ⟨h1, h2, ?_⟩
  rcases h.1 with ⟨_, _, rfl, _⟩ | ⟨b, cap, hb, _, rfl, _⟩
  · exact fun _ _ h => h
  · exact le_upd hb
theorem BytAt.app {l s : List UInt8} {q q' : V} {t t' : St} (h : BytAt σ0 l q t) (ha : AppAt t 1 (u8s l ++ u8s s) q q' t') : BytAt σ0 (l ++ s) q' t' := by
  obtain ⟨h1, h2, h3⟩ := h
  exact ⟨by rw [u8s_app]; exact ha.at_, ha.new (none_of h3) h2, fun b c hb => ha.get (h3 b c hb) (fun e => by rw [h2 b e] at hb; cases hb)⟩
theorem BytAt.byt {l : List UInt8} {q : V} {s : St} (h : BytAt σ0 l q s) : (∃ ex, q = .isl ex 1 (u8s l)) ∨ (∃ es, q = .isl true es [] ∧ l = []) ∨ ∃ b cap, q = .msl b 1 0 l.length cap ∧ s b = some (u8s l) := by
  rcases h.1.2 with ⟨h1, es, rfl⟩ | ⟨b, cap, rfl, hb⟩
  · exact .inr (.inl ⟨es, rfl, by simpa [u8s] using h1⟩)
  · rw [flat_u8s] at hb
    rw [u8s_len]
    exact .inr (.inr ⟨b, cap, rfl, hb⟩)
theorem src_str {s : List UInt8} : srcV σ 1 (.str s) = some (flat (u8s s), s.length) := by rw [flat_u8s]; rfl
section
variable {P : Program} {f : FuncId} {n : Nat} {Q : V → St → Prop} {k : List It} {T : Ts} {g : GI} {l : List GI}
theorem stepW_b2s_isl {ex : Bool} (bs : List UInt8) : stepW P Γ f n Q (.b2s (.c (.isl ex 1 (u8s bs)))) g l k T σ = W P Γ f n Q (.ops l :: k) (putT T g.d (.str bs)) σ := by
  simp [stepW, insW, pureI, ev, u8of_u8s]
theorem stepW_b2s_msl (b es off len cap : Nat) : stepW P Γ f n Q (.b2s (.c (.msl b es off len cap))) g l k T σ = SRun P Γ f n (.ops (g :: l) :: k) T σ Q := by
  simp [stepW, insW, pureI, ev]
end
set_option maxHeartbeats 2000000 in
theorem l01Text_ok {vars : Int} {cls : List (List Int)} (h : cnfB vars cls = true) : Ret Tryd.prog Γ 34 [.agg [.int .i64 vars, .isl false 1 (clV cls)]] σ (.str (dimT vars cls)) σ := by
  obtain ⟨hv, hn, hc⟩ := cnfB_all h
  have hlen2 : ∀ x y : V, [x, y].take 2 = [x, y] := fun _ _ => rfl
  have hH := dimH_len hv hn
  have hl1 := itoa_len (n := vars) (by omega) (by omega)
  have hl2 := itoa_len (n := (cls.length : Int)) (by omega) (by omega)
  have hcl : ∀ i, ((cls.take i).flatMap clauseT).length ≤ 110 * 300 := fun i => Nat.le_trans (cls_len hv.2 fun c hc' => hc c (List.mem_of_mem_take hc')) (by simp; omega)
  rw [dimT_eq]
  have hHd : 112 :: 32 :: 99 :: 110 :: 102 :: 32 :: (itoa vars ++ [32] ++ itoa (cls.length : Int) ++ [10]) = dimH vars cls.length := by simp [dimH]
  have hH0 : dimH vars cls.length ≠ [] := by simp [dimH]
  refine ret_of c34_ok rfl ?_
  simp (disch := omega) only [c34, go_sem]
  refine SRun.boxR (by simp [ev, look, V.cells, V.one]) ?_
  intro b1 hb1
  have g1 := upd_same σ b1 [.int .i64 vars, .isl false 1 (clV cls)]
  have hσ := le_upd (cs := [V.int .i64 vars, .isl false 1 (clV cls)]) hb1
  simp (disch := omega) only [go_sem]
  generalize upd σ b1 [.int .i64 vars, .isl false 1 (clV cls)] = s1 at *
  refine W_drawW ?_
  refine DRun.mixE rfl ?_
  simp (disch := omega) only [g1, go_sem]
  refine DS.callB (digits_ok (by omega) (by omega)) ⟨[], rfl, rfl⟩ rfl rfl ?_
  simp (disch := omega) only [List.length_append, List.length_cons, List.length_nil, go_sem]
  refine DS.callB (digits_ok (by omega) (by omega)) ⟨[], rfl, rfl⟩ rfl rfl ?_
  simp (disch := omega) only [List.length_append, List.length_cons, List.length_nil, go_sem]
  rw [hHd]
  refine DRun.s2bR rfl ?_
  intro q s2 hO
  have hB := BytAt.of hO
  clear hO
  generalize dimH vars cls.length = hd at *
  simp (disch := omega) only [go_sem]
  refine W_loopC (α := Nat × V × St) (fun a => a.1 ≤ cls.length ∧ BytAt s1 (hd ++ (cls.take a.1).flatMap clauseT) a.2.1 a.2.2) (fun a => [(1, .ptr b1 0), (3, a.2.1), (4, .int .i64 (a.1 : Nat))]) (fun a => a.2.2) (fun a => cls.length - a.1) (0, q, s2) ⟨by simp, by simpa using hB⟩ (by simp (disch := omega) only [subT, Int.natCast_add, Int.cast_ofNat_Int, go_sem] <;> (repeat' apply And.intro) <;> first | rfl | (congr 1; omega) | assumption) rfl ?_
  clear hB
  rintro ⟨i, q, s⟩ ⟨hi, hB⟩ ih
  dsimp only at hi hB
  have hli := hcl i
  have g1' := hB.2.2 _ _ g1
  simp (disch := omega) only [g1', go_sem]
  first | refine iteW_dec (fun hq => ?_) (fun hq => ?_) | refine iteW_of (fun hq => ?_) (fun hq => ?_)
  · have hi' : i < cls.length := by omega
    obtain ⟨hc12, hcx⟩ := hc _ (getD_mem [] hi')
    have htk := take_clause hi'
    have hcT := clauseT_len hc12 (fun x hx => ⟨(hcx x hx).1, by have := (hcx x hx).2; omega, by have := (hcx x hx).2; omega⟩)
    generalize hcg : cls.getD i [] = c at *
    have hln : ∀ k, ((c.take k).flatMap litT).length ≤ 9 * 12 := fun k => Nat.le_trans (litT_len _ fun x hx => by have := (hcx x (List.mem_of_mem_take hx)).2; omega) (by simp; omega)
    generalize hbase : hd ++ (cls.take i).flatMap clauseT = base at *
    have hbl : base.length ≤ 40000 := by rw [← hbase, List.length_append]; omega
    simp (disch := omega) only [go_sem]
    refine W_loopC (α := Nat × V × St) (fun a => a.1 ≤ c.length ∧ BytAt s1 (base ++ (c.take a.1).flatMap litT) a.2.1 a.2.2) (fun a => [(1, .ptr b1 0), (3, a.2.1), (4, .int .i64 (i : Nat)), (5, .int .i64 (a.1 : Nat))]) (fun a => a.2.2) (fun a => c.length - a.1) (0, q, s) ⟨by simp, by simpa using hB⟩ (by simp (disch := omega) only [subT, Int.natCast_add, Int.cast_ofNat_Int, go_sem] <;> (repeat' apply And.intro) <;> first | rfl | (congr 1; omega) | assumption) rfl ?_
    clear hB g1'
    rintro ⟨j, q, s⟩ ⟨hj, hB⟩ ih2
    dsimp only at hj hB
    have hlj := hln j
    have g1' := hB.2.2 _ _ g1
    simp (disch := omega) only [g1', hcg, go_sem]
    first | refine iteW_dec (fun hq2 => ?_) (fun hq2 => ?_) | refine iteW_of (fun hq2 => ?_) (fun hq2 => ?_)
    · have hj' : j < c.length := by omega
      have hxx := (hcx _ (getD_mem 0 hj')).2
      have htk2 := litT_take hj'
      have hil := itoa_len (n := c.getD j 0) (by omega) (by omega)
      simp (disch := omega) only [g1', hcg, go_sem]
      generalize c.getD j 0 = x at *
      refine SRun.callR (digits_ok (by omega) (by omega)) ⟨[], rfl, rfl⟩ rfl ?_
      simp (disch := omega) only [List.length_singleton, go_sem]
      refine SRun.appAt (ys := u8s (itoa x ++ [32])) hB.1 (by exact src_str) (by rw [u8s_len]) (u8s_ok _) (by simp only [u8s_len, List.length_append, List.length_singleton]; omega) ?_
      intro q' s' hA
      simp (disch := omega) only [go_sem]
      exact ih2 (j + 1, q', s') _ _ ⟨by simp only; omega, by rw [htk2, ← List.append_assoc]; exact hB.app hA⟩ (by simp only; omega) (by simp (disch := omega) only [subT, Int.natCast_add, Int.cast_ofNat_Int, go_sem] <;> (repeat' apply And.intro) <;> first | rfl | (congr 1; omega) | assumption) rfl
    · obtain rfl : j = c.length := by omega
      rw [List.take_length] at *
      simp (disch := omega) only [go_sem]
      refine SRun.appAt (ys := u8s [48, 10]) hB.1 (by exact src_str) rfl (u8s_ok _) (by simp only [u8s_len, List.length_append, List.length_cons, List.length_nil]; omega) ?_
      intro q' s' hA
      simp (disch := omega) only [go_sem]
      have hB2 := hB.app hA
      rw [List.append_assoc, ← clauseT_lit, ← hbase, List.append_assoc, ← htk] at hB2
      exact ih (i + 1, q', s') _ _ ⟨by simp only; omega, hB2⟩ (by simp only; omega) (by simp (disch := omega) only [subT, Int.natCast_add, Int.cast_ofNat_Int, go_sem] <;> (repeat' apply And.intro) <;> first | rfl | (congr 1; omega) | assumption) rfl
  · obtain rfl : i = cls.length := by omega
    rw [List.take_length] at *
    simp (disch := omega) only [go_sem]
    rcases hB.byt with ⟨ex, rfl⟩ | ⟨es, rfl, h0⟩ | ⟨b, cap, rfl, hb⟩
    · rw [stepW_b2s_isl]
      simp (disch := omega) only [go_sem]
      exact W_retC c34_ok rfl (Conv.drop _ fun c x hx => hB.2.2 _ _ (hσ c x hx)) ⟨rfl, rfl⟩
    · exact absurd (List.append_eq_nil_iff.1 h0).1 hH0
    · rw [stepW_b2s_msl]
      refine SRun.b2sR (bs := hd ++ cls.flatMap clauseT) (.inr ⟨b, cap, rfl, hb⟩) ?_
      simp (disch := omega) only [go_sem]
      exact W_retC c34_ok rfl (Conv.drop _ fun c x hx => hB.2.2 _ _ (hσ c x hx)) ⟨rfl, rfl⟩
theorem specDimacsText_ok {vars : Int} {cls : List (List Int)} (h : cnfB vars cls = true) : Ret Tryd.prog Γ 9 [.agg [.int .i64 vars, .isl false 1 (clV cls)]] σ (.tup [.str (dimT vars cls), .int .i64 0]) σ := by
  have hlen2 : ∀ x y : V, [x, y].take 2 = [x, y] := fun _ _ => rfl
  have hnt : (!true) = false := rfl
  refine ret_of c9_ok rfl ?_
  simp (disch := omega) only [c9, go_sem]
  refine SRun.boxR (by simp [ev, look, V.cells, V.one]) ?_
  intro b1 hb1
  have g1 := upd_same σ b1 [.int .i64 vars, .isl false 1 (clV cls)]
  have hσ := le_upd (cs := [V.int .i64 vars, .isl false 1 (clV cls)]) hb1
  simp (disch := omega) only [upd_same, hlen2, go_sem]
  generalize upd σ b1 [.int .i64 vars, .isl false 1 (clV cls)] = s1 at *
  refine SRun.callR (specOKT_ok h) ⟨[], rfl, rfl⟩ rfl ?_
  simp (disch := omega) only [hnt, g1, hlen2, go_sem]
  refine SRun.callR (l01Text_ok h) ⟨[], rfl, rfl⟩ rfl ?_
  simp (disch := omega) only [go_sem]
  exact W_retC c9_ok rfl (Conv.drop _ hσ) ⟨rfl, rfl⟩
end Go.Proofs.YtlojopaebdnacaaDoor.Lg
/- The law FnDimacs over its code. -/
set_option linter.unusedSimpArgs false
set_option linter.unusedVariables false
namespace Go.Proofs.YtlojopaebdnacaaDoor.Lg
open Go Go.Lib
attribute [local irreducible] SRun DS DRun
variable {Γ : St} {σ σ0 : St}
theorem cnfB_ofT {vars : Int} {cls : List (List Int)} (h : Drawn vars cls) : cnfB vars cls = true := by
  obtain ⟨h1, h2, h3, h4⟩ := h
  simp only [cnfB, clauseB, litB, Bool.and_eq_true, decide_eq_true_eq, List.all_eq_true, bne_iff_ne, ne_eq]
  exact ⟨⟨⟨by omega, by omega⟩, by omega⟩, fun c hc => ⟨by have := (h4 c hc).1; omega, fun x hx => by obtain ⟨a, b, d⟩ := (h4 c hc).2 x hx; exact ⟨a, b, d⟩⟩⟩
theorem cnfT_ones {v : Int} {cs : List (List Int)} : ∀ y ∈ [V.int .i64 v, .isl false 1 (clV cs)], y.one = true := by simp [V.one]
theorem ReadDimacsT_ok (hg : NumG Γ) {t : List UInt8} (hl : t.length ≤ 10000000) : Ret Tryd.prog Γ 10 [.str t] σ (.tup [.agg [.int .i64 (dimP t).vars, .isl false 1 (clV (dimP t).cls)], .int .i64 (dimP t).code, .int .i64 (dimP t).place]) σ :=
  (ReadDimacs_own hg hl).conv fun r s ⟨hle, q, qs, e, h⟩ => by
    subst e
    exact ⟨_, _, ⟨hle, frz_tup (by exact ⟨frz_agg (by exact ⟨.refl _, (h.conv pre0_ok hle).2, trivial⟩) cnfT_ones, .refl _, .refl _, trivial⟩)⟩, rfl, rfl⟩
theorem CnfOKT_ok {vars : Int} {cls : List (List Int)} (h : cnfB vars cls = true) : Ret Tryd.prog Γ 12 [.agg [.int .i64 vars, .isl false 1 (clV cls)]] σ (.bool true) σ := by
  have hlen2 : ∀ x y : V, [x, y].take 2 = [x, y] := fun _ _ => rfl
  refine ret_of c12_ok rfl ?_
  simp (disch := omega) only [c12, go_sem]
  refine SRun.boxR (by simp [ev, look, V.cells, V.one]) ?_
  intro b1 hb1
  have hσ := le_upd (cs := [V.int .i64 vars, .isl false 1 (clV cls)]) hb1
  simp (disch := omega) only [upd_same, hlen2, go_sem]
  refine SRun.callR (isCnfT_ok h) ⟨[], rfl, rfl⟩ rfl ?_
  simp (disch := omega) only [go_sem]
  exact W_retC c12_ok rfl (Conv.drop _ hσ) ⟨rfl, rfl⟩
set_option maxHeartbeats 2000000 in
theorem fnDimacs_ok (hg : NumG Γ) {ex : Bool} {code : List UInt8} (hl : code.length ≤ 140737488355328) : Ret Tryd.prog Γ 3 [codeV ex code] σ (.bool true) σ := by
  have hlen2 : ∀ x y : V, [x, y].take 2 = [x, y] := fun _ _ => rfl
  have hcl : (codeV ex code) = .isl ex 1 (code.map fun c => .int .u8 (c.toNat : Int)) := rfl
  have hsetR : ∀ x y : V, sets [V.int .i64 0, .isl true 0 []] 0 [x, y] = [x, y] := fun _ _ => rfl
  have hcm : (code.map fun c => V.int .u8 (c.toNat : Int)).length = code.length := by simp
  refine ret_of c3_ok rfl ?_
  simp (disch := omega) only [c3, hcl, hcm, go_sem]
  first | refine iteW_dec (fun h1 => ?_) (fun h1 => ?_) | refine iteW_of (fun h1 => ?_) (fun h1 => ?_)
  · simp (disch := omega) only [go_sem]
    exact W_retR c3_ok rfl ⟨rfl, rfl⟩
  simp (disch := omega) only [go_sem]
  refine SRun.callQ (cnfOf_ok (ex := ex) hl) ⟨[], rfl, rfl⟩ rfl ?_
  rintro r s ⟨vars, cls, hd, rfl, hs⟩
  obtain rfl := hs.symm
  have hb := cnfB_ofT hd
  obtain ⟨hv, hn, hc⟩ := cnfB_all hb
  have hdl : (dimT vars cls).length ≤ 40000 := by
    have h2 := dimH_len hv hn
    have h3 := cls_len hv.2 hc
    rw [dimT_eq, List.length_append]; omega
  have hlt : (remark ++ [10] ++ dimT vars cls ++ [10]).length ≤ 65536 := by simp only [List.length_append, remark, List.length_cons, List.length_nil]; omega
  have hR := dim_read hv hn hc hlt
  have hRD := fun σ => ReadDimacsT_ok (Γ := Γ) (σ := σ) hg (t := remark ++ [10] ++ dimT vars cls ++ [10]) (by omega)
  rw [hR] at hRD
  dsimp only at hRD
  have hrem : 99 :: 32 :: 97 :: 32 :: 114 :: 101 :: 109 :: 97 :: 114 :: 107 :: 10 :: (dimT vars cls ++ [10]) = remark ++ [10] ++ dimT vars cls ++ [10] := by simp [remark]
  have hsm : ∀ c ∈ cls, c.length ≤ 1048576 := fun c h => by have := (hc c h).1; omega
  have hDT := fun σ => DimacsText_ok (Γ := Γ) (σ := σ) hg hb
  have hST := fun σ => specDimacsText_ok (Γ := Γ) (σ := σ) hb
  rw [cnfV_eq]
  generalize dimT vars cls = T at *
  have htt : (T == T) = true := by simp
  have dd0 : decide ((0 : Int) = 0) = true := rfl
  simp (disch := omega) only [go_sem]
  refine SRun.allocR ?_
  intro b3 hb3
  have g3 := upd_same σ b3 [.int .i64 vars, .isl false 1 (clV cls)]
  have hσ := le_upd (cs := [V.int .i64 vars, .isl false 1 (clV cls)]) hb3
  simp (disch := omega) only [upd_same, upd_upd, hsetR, hlen2, go_sem]
  generalize upd σ b3 [.int .i64 vars, .isl false 1 (clV cls)] = s1 at *
  refine SRun.callR (hDT _) ⟨[], rfl, rfl⟩ rfl ?_
  simp (disch := omega) only [g3, hlen2, go_sem]
  refine SRun.callR (hST _) ⟨[], rfl, rfl⟩ rfl ?_
  simp (disch := omega) only [List.length_append, List.length_cons, List.length_nil, go_sem]
  rw [hrem]
  refine SRun.callR (hRD _) ⟨[], rfl, rfl⟩ rfl ?_
  simp (disch := omega) only [go_sem]
  refine SRun.allocR ?_
  intro b8 hb8
  have g8 := upd_same s1 b8 [.int .i64 vars, .isl false 1 (clV cls)]
  have hle8 := le_upd (cs := [V.int .i64 vars, .isl false 1 (clV cls)]) hb8
  have g3' := hle8 _ _ g3
  simp (disch := omega) only [upd_same, upd_upd, hsetR, htt, dd0, g3', hlen2, go_sem]
  generalize upd s1 b8 [.int .i64 vars, .isl false 1 (clV cls)] = s2 at *
  refine SRun.callR (sameCnfT_ok (by omega) hsm) ⟨[], rfl, rfl⟩ rfl ?_
  simp (disch := omega) only [g8, hlen2, go_sem]
  refine SRun.callR (CnfOKT_ok hb) ⟨[], rfl, rfl⟩ rfl ?_
  simp (disch := omega) only [go_sem]
  exact W_retC c3_ok rfl (Conv.drop _ fun c x h => hle8 _ _ (hσ c x h)) ⟨rfl, rfl⟩
end Go.Proofs.YtlojopaebdnacaaDoor.Lg
