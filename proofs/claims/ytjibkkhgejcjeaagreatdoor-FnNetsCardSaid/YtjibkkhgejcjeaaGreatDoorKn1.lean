/- What is told of the functions that are reached, as far as it is asked here. -/
import Derived.Test.YtjibkkhgejcjeaaGreatDoorKnc
import Derived.Test.YtjibkkhgejcjeaaGreatDoorLgL
import Derived.KernelRfl
set_option linter.unusedSimpArgs false
set_option linter.unusedVariables false
namespace Go.Proofs.YtjibkkhgejcjeaaGreatDoor.Lg
open Go
section
section
attribute [local irreducible] SRun DS DRun
variable {Γ : St} {σ : St}
theorem tmod_in {a n : Int} (h : 0 ≤ a) (hn : 0 < n) : 0 ≤ a.tmod n ∧ a.tmod n < n := ⟨Int.tmod_nonneg _ h, Int.tmod_lt_of_pos _ hn⟩
/-- The bytes of a slice that came in. -/
def codeV (ex : Bool) (code : List UInt8) : V := .isl ex 1 (code.map fun c => .int .u8 (c.toNat : Int))
/-- A source of choices. -/
def srcC (ex : Bool) (code : List UInt8) (a s : Int) : List V := [codeV ex code, .int .i64 a, .int .i64 s]
theorem byte_ok {b : Nat} {ex : Bool} {code : List UInt8} {a s : Int} (hb : σ b = some (srcC ex code a s)) (ha : 0 ≤ a ∧ a ≤ 2305843009213693952) (hs : 0 ≤ s ∧ s < 2147483648) :
    ACalls Tryz.prog Γ 118 [.ptr b 0] σ fun r σ' => ∃ v s', 0 ≤ v ∧ v ≤ 255 ∧ 0 ≤ s' ∧ s' < 2147483648 ∧ r = .int .i64 v ∧ σ' = upd σ b (srcC ex code (a + 1) s') := by
  refine acalls_W c118_ok rfl ?_
  have w1 := wrap64 (a := a + 1) (by omega) (by omega)
  have w2 := wrap64 (a := a + 1 - 1) (by omega) (by omega)
  have w3 := wrap64 (a := s * 31) (by omega) (by omega)
  simp only [c118, srcC, codeV, hb, w1, go_sem, stepW_iaddr_isl, stepW_iaddr_msl, stepW_idxs, stepK_iaddr_isl, stepK_iaddr_msl, stepK_idxs, ne_eq, ↓reduceIte]
  refine W_drawW ?_
  simp only [go_sem, stepW_iaddr_isl, stepW_iaddr_msl, stepW_idxs, stepK_iaddr_isl, stepK_iaddr_msl, stepK_idxs, ne_eq, ↓reduceIte]
  refine iteW_of (fun h => ?_) (fun h => ?_)
  · simp only [decide_eq_true_eq] at h
    have hlt : a.toNat < code.length := by omega
    have ha2 : (a + 1 - 1).toNat = a.toNat := by omega
    have ha3 : 0 ≤ a + 1 - 1 := by omega
    have hget : (code.map fun c => V.int .u8 (c.toNat : Int))[a.toNat]? = some (.int .u8 (code[a.toNat].toNat : Int)) := by simp [hlt]
    have hc : 0 ≤ (code[a.toNat].toNat : Int) ∧ (code[a.toNat].toNat : Int) ≤ 255 := by have := code[a.toNat].toNat_lt; omega
    generalize (code[a.toNat].toNat : Int) = c at hget hc
    have w4 := wrap64 (a := c) (by omega) (by omega)
    have w5 := wrap64 (a := s * 31 + c) (by omega) (by omega)
    have w6 := wrap64 (a := s * 31 + c + 7) (by omega) (by omega)
    simp only [go_sem, stepW_iaddr_isl, stepW_iaddr_msl, stepW_idxs, stepK_iaddr_isl, stepK_iaddr_msl, stepK_idxs, ne_eq, ↓reduceIte]
    refine W_drawW ?_
    simp only [w2, w3, w4, w5, w6, ha2, ha3, hget, go_sem, stepW_iaddr_isl, stepW_iaddr_msl, stepW_idxs, stepK_iaddr_isl, stepK_iaddr_msl, stepK_idxs, ne_eq, ↓reduceIte]
    refine W_drawW ?_
    simp only [w2, w4, ha2, ha3, hget, go_sem, stepW_iaddr_isl, stepW_iaddr_msl, stepW_idxs, stepK_iaddr_isl, stepK_iaddr_msl, stepK_idxs, ne_eq, ↓reduceIte]
    refine W_retR c118_ok rfl ⟨c, (s * 31 + c + 7).tmod 2147483648, hc.1, hc.2, (tmod_in (by omega) (by omega)).1, (tmod_in (by omega) (by omega)).2, rfl, rfl⟩
  · simp only [go_sem, stepW_iaddr_isl, stepW_iaddr_msl, stepW_idxs, stepK_iaddr_isl, stepK_iaddr_msl, stepK_idxs, ne_eq, ↓reduceIte]
    refine iteW_of (fun h => ?_) (fun h => ?_)
    · simp only [go_sem, stepW_iaddr_isl, stepW_iaddr_msl, stepW_idxs, stepK_iaddr_isl, stepK_iaddr_msl, stepK_idxs, ne_eq, ↓reduceIte]
      exact W_retR c118_ok rfl ⟨0, s, by omega, by omega, hs.1, hs.2, rfl, rfl⟩
    · have w4 := wrap64 (a := s * 1103515245) (by omega) (by omega)
      have w5 := wrap64 (a := s * 1103515245 + 12345) (by omega) (by omega)
      simp only [w4, w5, go_sem, stepW_iaddr_isl, stepW_iaddr_msl, stepW_idxs, stepK_iaddr_isl, stepK_iaddr_msl, stepK_idxs, ne_eq, ↓reduceIte]
      have hq : 0 ≤ (s * 1103515245 + 12345).tmod 2147483648 ∧ (s * 1103515245 + 12345).tmod 2147483648 < 2147483648 := tmod_in (by omega) (by omega)
      have hd : ((s * 1103515245 + 12345).tmod 2147483648).tdiv 65536 = ((s * 1103515245 + 12345).tmod 2147483648) / 65536 := Int.tdiv_eq_ediv_of_nonneg hq.1
      have w6 := wrap64 (a := ((s * 1103515245 + 12345).tmod 2147483648).tdiv 65536) (by omega) (by omega)
      simp only [w6]
      refine W_retR c118_ok rfl ⟨_, _, (tmod_in (by omega) (by omega)).1, by have := (tmod_in (a := ((s * 1103515245 + 12345).tmod 2147483648).tdiv 65536) (n := 256) (by omega) (by omega)).2; omega, hq.1, hq.2, rfl, rfl⟩

/-- One of 0 to n - 1. -/
theorem next_ok {b : Nat} {ex : Bool} {code : List UInt8} {a s n : Int} (hb : σ b = some (srcC ex code a s)) (ha : 0 ≤ a ∧ a ≤ 1152921504606846976) (hs : 0 ≤ s ∧ s < 2147483648) :
    ACalls Tryz.prog Γ 85 [.ptr b 0, .int .i64 n] σ fun r σ' => ∃ v a' s', 0 ≤ v ∧ (n ≤ 1 → v = 0) ∧ (1 ≤ n → v < n) ∧ a ≤ a' ∧ a' ≤ a + 3 ∧ 0 ≤ s' ∧ s' < 2147483648 ∧ r = .int .i64 v ∧ σ' = upd σ b (srcC ex code a' s') := by
  refine acalls_W c85_ok rfl ?_
  simp only [c85, go_sem, stepW_iaddr_isl, stepW_iaddr_msl, stepW_idxs, stepK_iaddr_isl, stepK_iaddr_msl, stepK_idxs, ne_eq, ↓reduceIte]
  refine iteW_of (fun h => ?_) (fun h => ?_)
  · simp only [go_sem, stepW_iaddr_isl, stepW_iaddr_msl, stepW_idxs, stepK_iaddr_isl, stepK_iaddr_msl, stepK_idxs, ne_eq, ↓reduceIte]
    simp only [decide_eq_true_eq] at h
    refine W_retR c85_ok rfl ⟨0, a, s, by omega, fun _ => rfl, by omega, by omega, by omega, hs.1, hs.2, rfl, (upd_self σ hb).symm⟩
  · simp only [go_sem, stepW_iaddr_isl, stepW_iaddr_msl, stepW_idxs, stepK_iaddr_isl, stepK_iaddr_msl, stepK_idxs, ne_eq, ↓reduceIte]
    simp only [decide_eq_false_iff_not] at h
    refine iteW_of (fun h2 => ?_) (fun h2 => ?_)
    · simp only [go_sem, stepW_iaddr_isl, stepW_iaddr_msl, stepW_idxs, stepK_iaddr_isl, stepK_iaddr_msl, stepK_idxs, ne_eq, ↓reduceIte]
      refine SRun.callQ (byte_ok hb (by omega) hs) ⟨[], rfl, rfl⟩ rfl ?_
      rintro r σ' ⟨v, s', h1, h2, h3, h4, rfl, rfl⟩
      simp only [go_sem, stepW_iaddr_isl, stepW_iaddr_msl, stepW_idxs, stepK_iaddr_isl, stepK_iaddr_msl, stepK_idxs, ne_eq, ↓reduceIte]
      rw [if_pos (by omega)]
      exact W_retR c85_ok rfl ⟨v.tmod n, a + 1, s', Int.tmod_nonneg _ h1, by omega, fun _ => Int.tmod_lt_of_pos _ (by omega), by omega, by omega, h3, h4, rfl, rfl⟩
    · simp only [go_sem, stepW_iaddr_isl, stepW_iaddr_msl, stepW_idxs, stepK_iaddr_isl, stepK_iaddr_msl, stepK_idxs, ne_eq, ↓reduceIte]
      refine SRun.callQ (byte_ok hb (by omega) hs) ⟨[], rfl, rfl⟩ rfl ?_
      rintro r σ' ⟨v, s', h1, h2, h3, h4, rfl, rfl⟩
      simp only [go_sem, stepW_iaddr_isl, stepW_iaddr_msl, stepW_idxs, stepK_iaddr_isl, stepK_iaddr_msl, stepK_idxs, ne_eq, ↓reduceIte]
      refine SRun.callQ (byte_ok (upd_same _ _ _) (by omega) ⟨h3, h4⟩) ⟨[], rfl, rfl⟩ rfl ?_
      rintro r σ' ⟨v2, s2, k1, k2, k3, k4, rfl, rfl⟩
      simp only [go_sem, stepW_iaddr_isl, stepW_iaddr_msl, stepW_idxs, stepK_iaddr_isl, stepK_iaddr_msl, stepK_idxs, ne_eq, ↓reduceIte]
      refine SRun.callQ (byte_ok (upd_same _ _ _) (by omega) ⟨k3, k4⟩) ⟨[], rfl, rfl⟩ rfl ?_
      rintro r σ' ⟨v3, s3, l1, l2, l3, l4, rfl, rfl⟩
      have w1 := wrap64 (a := v * 65536) (by omega) (by omega)
      have w2 := wrap64 (a := v2 * 256) (by omega) (by omega)
      have w3 := wrap64 (a := v * 65536 + v2 * 256) (by omega) (by omega)
      have w4 := wrap64 (a := v * 65536 + v2 * 256 + v3) (by omega) (by omega)
      simp only [w1, w2, w3, w4, go_sem, stepW_iaddr_isl, stepW_iaddr_msl, stepW_idxs, stepK_iaddr_isl, stepK_iaddr_msl, stepK_idxs, ne_eq, ↓reduceIte]
      rw [if_pos (by omega)]
      exact W_retR c85_ok rfl ⟨_, a + 1 + 1 + 1, s3, Int.tmod_nonneg _ (by omega), by omega, fun _ => Int.tmod_lt_of_pos _ (by omega), by omega, by omega, l3, l4, rfl, rfl⟩

theorem chance_ok {b : Nat} {ex : Bool} {code : List UInt8} {a s n : Int} (hb : σ b = some (srcC ex code a s)) (ha : 0 ≤ a ∧ a ≤ 1152921504606846976) (hs : 0 ≤ s ∧ s < 2147483648) (hn : -1000000 ≤ n ∧ n ≤ 1000000) :
    ACalls Tryz.prog Γ 87 [.ptr b 0, .int .i64 n] σ fun r σ' => ∃ v a' s', a ≤ a' ∧ a' ≤ a + 3 ∧ 0 ≤ s' ∧ s' < 2147483648 ∧ r = .bool v ∧ σ' = upd σ b (srcC ex code a' s') := by
  refine acalls_W c87_ok rfl ?_
  have w1 := wrap64 (a := n - 1) (by omega) (by omega)
  simp only [c87, go_sem, stepW_iaddr_isl, stepW_iaddr_msl, stepW_idxs, stepK_iaddr_isl, stepK_iaddr_msl, stepK_idxs, ne_eq, ↓reduceIte]
  refine SRun.callQ (next_ok hb ha hs) ⟨[], rfl, rfl⟩ rfl ?_
  rintro r σ' ⟨v, a', s', h1, _, _, h2, h3, h4, h5, rfl, rfl⟩
  simp only [w1, go_sem, stepW_iaddr_isl, stepW_iaddr_msl, stepW_idxs, stepK_iaddr_isl, stepK_iaddr_msl, stepK_idxs, ne_eq, ↓reduceIte]
  exact W_retR c87_ok rfl ⟨_, a', s', h2, h3, h4, h5, rfl, rfl⟩

theorem source_ok {ex : Bool} {code : List UInt8} (hl : code.length ≤ 140737488355328) :
    ACalls Tryz.prog Γ 43 [codeV ex code] σ fun r σ' => ∃ b s, σ b = none ∧ 0 ≤ s ∧ s < 2147483648 ∧ r = .ptr b 0 ∧ σ' = upd σ b (srcC ex code 0 s) := by
  refine acalls_W c43_ok rfl ?_
  simp only [c43, codeV, go_sem, stepW_iaddr_isl, stepW_iaddr_msl, stepW_idxs, stepK_iaddr_isl, stepK_iaddr_msl, stepK_idxs, ne_eq, ↓reduceIte]
  refine SRun.boxR (by simp [ev, look, V.cells, V.one]) ?_
  intro b hb
  simp only [go_sem, stepW_iaddr_isl, stepW_iaddr_msl, stepW_idxs, stepK_iaddr_isl, stepK_iaddr_msl, stepK_idxs, ne_eq, ↓reduceIte]
  have h1 := tmod_in (a := (code.length : Int)) (n := 1000) (by omega) (by omega)
  exact W_retR c43_ok rfl ⟨b, _, hb, h1.1, by omega, rfl, rfl⟩

end
section
attribute [local irreducible] SRun DS DRun
variable {Γ : St} {σ : St}
/-- The formulas that are drawn. -/
theorem within_ok (a b c : Int) : Ret Tryz.prog Γ 64 [.int .i64 a, .int .i64 b, .int .i64 c] σ (.bool (decide (b ≤ a) && decide (a ≤ c))) σ := by
  refine ret_of c64_ok rfl ?_
  simp only [c64, go_sem, stepW_iaddr_isl, stepW_iaddr_msl, stepW_idxs, stepK_iaddr_isl, stepK_iaddr_msl, stepK_idxs, ne_eq, ↓reduceIte]
  refine guardW_of (fun h => ?_) (fun h => ?_)
  · have h' := of_decide_eq_true h
    simp only [h, go_sem, stepW_iaddr_isl, stepW_iaddr_msl, stepW_idxs, stepK_iaddr_isl, stepK_iaddr_msl, stepK_idxs, ne_eq, ↓reduceIte]
    exact W_retR c64_ok rfl ⟨rfl, rfl⟩
  · have h' := of_decide_eq_false h
    simp only [h, go_sem, stepW_iaddr_isl, stepW_iaddr_msl, stepW_idxs, stepK_iaddr_isl, stepK_iaddr_msl, stepK_idxs, ne_eq, ↓reduceIte]
    exact W_retR c64_ok rfl ⟨rfl, rfl⟩
theorem any_find {α : Type} (xs : List α) (p : α → Bool) : decide ((match xs.findIdx? p with | some i => (i : Int) | none => -1) ≥ 0) = xs.any p := by
  cases h : xs.findIdx? p with
  | some i =>
    rw [List.findIdx?_eq_some_iff_getElem] at h
    obtain ⟨hi, hp, _⟩ := h
    have : xs.any p = true := List.any_eq_true.2 ⟨_, List.getElem_mem hi, hp⟩
    rw [this]; exact decide_eq_true (by simp only; omega)
  | none =>
    rw [List.findIdx?_eq_none_iff] at h
    have : xs.any p = false := by rw [List.any_eq_false]; intro x hx; simp [h x hx]
    rw [this]; rfl
end
section
attribute [local irreducible] SRun DS DRun
variable {Γ : St} {σ σ0 : St}
theorem l01In_ok (a b c : Int) : Ret Tryz.prog Γ 46 [.int .i64 a, .int .i64 b, .int .i64 c] σ (.bool (decide (b ≤ a) && decide (a ≤ c))) σ := by
  refine ret_of c46_ok rfl ?_
  simp (disch := omega) only [c46, go_sem]
  first | refine guardW_dec (fun h => ?_) (fun h => ?_) | refine guardW_by (fun h => ?_) (fun h => ?_)
  · have h' : decide (b ≤ a) = true := decide_eq_true (by omega)
    simp (disch := omega) only [go_sem]
    refine W_retR c46_ok rfl ⟨?_, rfl⟩
    simp only [look, ev, V.bool.injEq, V.int.injEq, V.str.injEq, V.tup.injEq, V.agg.injEq, V.isl.injEq, List.cons.injEq, true_and, and_true, h', Bool.true_and, Nat.reduceEqDiff, Nat.reduceAdd, Nat.reduceSub, Nat.reduceMul, Nat.reducePow, Nat.reduceDiv, Nat.reduceMod, Int.reduceToNat, Nat.reduceLeDiff, Nat.reduceLT, Int.reduceEq, Int.reduceLT, Int.reduceLE, Int.reduceGT, Int.reduceGE, Int.reduceNeg, Int.reduceSub, Int.reduceAdd, Int.reduceMul, Int.reducePow, ne_eq, reduceCtorEq, ↓reduceIte]
  · have h' : decide (b ≤ a) = false := decide_eq_false (by omega)
    simp (disch := omega) only [go_sem]
    refine W_retR c46_ok rfl ⟨?_, rfl⟩
    simp only [look, ev, V.bool.injEq, V.int.injEq, V.str.injEq, V.tup.injEq, V.agg.injEq, V.isl.injEq, List.cons.injEq, true_and, and_true, h', Bool.false_and, Nat.reduceEqDiff, Nat.reduceAdd, Nat.reduceSub, Nat.reduceMul, Nat.reducePow, Nat.reduceDiv, Nat.reduceMod, Int.reduceToNat, Nat.reduceLeDiff, Nat.reduceLT, Int.reduceEq, Int.reduceLT, Int.reduceLE, Int.reduceGT, Int.reduceGE, Int.reduceNeg, Int.reduceSub, Int.reduceAdd, Int.reduceMul, Int.reducePow, ne_eq, reduceCtorEq, ↓reduceIte]
end
end
section
section
attribute [local irreducible] SRun DS DRun
variable {Γ : St} {σ σ0 : St}
section
variable {P : Program} {f : FuncId} {n : Nat} {Q : V → St → Prop} {k : List It} {T : Ts} {g : GI} {l : List GI}
theorem stepW_iaddr_p0 {ex : Bool} {es : Nat} {x y : V} {kk : IntKind} : stepW P Γ f n Q (.iaddr es (.c (.isl ex es [x, y])) (.c (.int kk 0))) g l k T σ = W P Γ f n Q (.ops l :: k) (putT T g.d (.iptr x.cells)) σ := by simp [stepW_iaddr_isl]
theorem stepW_iaddr_p1 {ex : Bool} {es : Nat} {x y : V} {kk : IntKind} : stepW P Γ f n Q (.iaddr es (.c (.isl ex es [x, y])) (.c (.int kk 1))) g l k T σ = W P Γ f n Q (.ops l :: k) (putT T g.d (.iptr y.cells)) σ := by simp [stepW_iaddr_isl]
theorem stepK_iaddr_p0 {K : V → St → Prop} {ex : Bool} {es : Nat} {x y : V} {kk : IntKind} : stepK (.iaddr es (.c (.isl ex es [x, y])) (.c (.int kk 0))) σ K = K (.iptr x.cells) σ := by simp [stepK_iaddr_isl]
theorem stepK_iaddr_p1 {K : V → St → Prop} {ex : Bool} {es : Nat} {x y : V} {kk : IntKind} : stepK (.iaddr es (.c (.isl ex es [x, y])) (.c (.int kk 1))) σ K = K (.iptr y.cells) σ := by simp [stepK_iaddr_isl]
end
attribute [go_sem] stepW_iaddr_p0 stepW_iaddr_p1 stepK_iaddr_p0 stepK_iaddr_p1
end
section
variable {Γ : St} {σ σ0 : St}
attribute [local irreducible] SRun DS DRun
theorem WrF.store {P : Program} {T : Ts} {d : Option Nat} {n : Nat} {ad y : Opd} {b off : Nat} {cs : List V} (ha : ev Γ T ad = .ptr b off) (hb : σ b = some cs) (hn : (ev Γ T y).cells.length = n) (h1 : ∀ c ∈ (ev Γ T y).cells, c.one = true) (h4 : off + n ≤ cs.length) :
    WrF P Γ σ T ⟨d, none, .store n ad y⟩ fun r s => r = .undef ∧ s = upd σ b (sets cs off (ev Γ T y).cells) :=
  WrF.of fun T' hT => by
    have e1 := hT ad (by simp [I.opds])
    have e2 := hT y (by simp [I.opds])
    exact InsOK.store (by rw [e1]; exact ha) hb (by rw [e2]; exact hn) (by rw [e2]; exact h1) h4 ⟨rfl, by rw [e2]⟩
end
end
section
section
attribute [local irreducible] SRun DS DRun
variable {Γ : St} {σ σ0 : St}
def letterB (c : Nat) : Bool := (decide (97 ≤ c) && decide (c ≤ 122)) || (decide (65 ≤ c) && decide (c ≤ 90)) || decide (c = 95)
def digitB (c : Nat) : Bool := decide (48 ≤ c) && decide (c ≤ 57)
def charB (i : Nat) (c : Nat) : Bool := letterB c || (digitB c && decide (i ≠ 0))
def nameB (s : List UInt8) : Bool := decide (1 ≤ s.length) && decide (s.length ≤ 40) && (List.range s.length).all fun i => charB i (s.getD i 0).toNat
theorem char_cases (c : Nat) : ((97 ≤ c ∧ c ≤ 122) ∨ (65 ≤ c ∧ c ≤ 90) ∨ c = 95) ∨ (48 ≤ c ∧ c ≤ 57) ∨ (c ≤ 47 ∨ (58 ≤ c ∧ c ≤ 64) ∨ (91 ≤ c ∧ c ≤ 94) ∨ c = 96 ∨ 123 ≤ c) := by omega
theorem letter_t {c : Nat} (h : (97 ≤ c ∧ c ≤ 122) ∨ (65 ≤ c ∧ c ≤ 90) ∨ c = 95) : letterB c = true := by
  simp only [letterB, Bool.or_eq_true, Bool.and_eq_true, decide_eq_true_eq]; omega
theorem letter_f {c : Nat} (h : ¬ ((97 ≤ c ∧ c ≤ 122) ∨ (65 ≤ c ∧ c ≤ 90) ∨ c = 95)) : letterB c = false := by
  rw [Bool.eq_false_iff]; simp only [letterB, ne_eq, Bool.or_eq_true, Bool.and_eq_true, decide_eq_true_eq]; omega
theorem digit_t {c : Nat} (h : 48 ≤ c ∧ c ≤ 57) : digitB c = true := by
  simp only [digitB, Bool.and_eq_true, decide_eq_true_eq]; omega
theorem digit_f {c : Nat} (h : ¬ (48 ≤ c ∧ c ≤ 57)) : digitB c = false := by
  rw [Bool.eq_false_iff]; simp only [digitB, ne_eq, Bool.and_eq_true, decide_eq_true_eq]; omega
theorem name_false {s : List UInt8} {i : Nat} (hi : i < s.length) (h : charB i (s.getD i 0).toNat = false) : nameB s = false := by
  have : (List.range s.length).all (fun i => charB i (s.getD i 0).toNat) = false := by
    rw [List.all_eq_false]; exact ⟨i, List.mem_range.2 hi, by rw [h]; simp⟩
  unfold nameB; rw [this, Bool.and_false]
theorem name_all {s : List UInt8} (h : ∀ j, j < s.length → charB j (s.getD j 0).toNat = true) : nameB s = (decide (1 ≤ s.length) && decide (s.length ≤ 40)) := by
  have : (List.range s.length).all (fun i => charB i (s.getD i 0).toNat) = true := by
    rw [List.all_eq_true]; intro i hi; exact h i (List.mem_range.1 hi)
  unfold nameB; rw [this, Bool.and_true]
theorem byteN_in (c : UInt8) : c.toNat ≤ 255 := by have := c.toNat_lt; omega
theorem all_next {p : Nat → Bool} {i : Nat} (h : ∀ j, j < i → p j = true) (hi : p i = true) : ∀ j, j < i + 1 → p j = true := by
  intro j hj
  by_cases e : j = i
  · subst e; exact hi
  · exact h j (by omega)
set_option maxHeartbeats 1000000 in
theorem NameOK_ok {s : List UInt8} (hl : s.length ≤ 1000000000000) : Ret Tryz.prog Γ 65 [.str s] σ (.bool (nameB s)) σ := by
  refine ret_of c65_ok rfl ?_
  simp (disch := omega) only [c65, go_sem]
  refine W_loopC (α := Nat) (fun i => i ≤ s.length ∧ ∀ j, j < i → charB j (s.getD j 0).toNat = true) (fun i => [(0, .str s), (8, .int .i64 s.length), (9, .int .i64 (i : Nat))]) (fun _ => σ) (fun i => s.length - i) 0 ⟨by omega, fun j hj => by omega⟩ (by simp (disch := omega) only [subT, Int.natCast_add, Int.cast_ofNat_Int, go_sem] <;> (repeat' apply And.intro) <;> first | rfl | (congr 1; omega) | assumption) rfl ?_
  rintro i ⟨hi, hall⟩ ih
  simp (disch := omega) only [go_sem]
  first | refine iteW_dec (fun hq => ?_) (fun hq => ?_) | refine iteW_of (fun hq => ?_) (fun hq => ?_)
  · have hlt : i < s.length := by omega
    have hno := name_false hlt
    have hnx := all_next (p := fun j => charB j (s.getD j 0).toNat) hall (i := i)
    have hc := byteN_in (s.getD i 0)
    have hcc := char_cases (s.getD i 0).toNat
    simp (disch := omega) only [go_sem]
    generalize hcg : (s.getD i 0).toNat = c at *
    rcases hcc with hcc | hcc | hcc
    · have hch : charB i c = true := by unfold charB; rw [letter_t hcc]; rfl
      rcases hcc with hcc | hcc | hcc
      all_goals
        by_cases hd : c ≤ 57
        · simp (disch := omega) only [hcg, go_sem]
          exact ih (i + 1) _ _ ⟨by omega, hnx (hcg ▸ hch)⟩ (by omega) (by simp (disch := omega) only [subT, Int.natCast_add, Int.cast_ofNat_Int, go_sem] <;> (repeat' apply And.intro) <;> first | rfl | (congr 1; omega) | assumption) rfl
        · simp (disch := omega) only [hcg, go_sem]
          exact ih (i + 1) _ _ ⟨by omega, hnx (hcg ▸ hch)⟩ (by omega) (by simp (disch := omega) only [subT, Int.natCast_add, Int.cast_ofNat_Int, go_sem] <;> (repeat' apply And.intro) <;> first | rfl | (congr 1; omega) | assumption) rfl
    · by_cases hi0 : i = 0
      · have hch : charB i c = false := by unfold charB; rw [letter_f (by omega), digit_t hcc]; simp [hi0]
        simp (disch := omega) only [hcg, go_sem]
        exact W_retR c65_ok rfl ⟨by rw [hno hch]; rfl, rfl⟩
      · have hch : charB i c = true := by unfold charB; rw [letter_f (by omega), digit_t hcc]; simp [hi0]
        simp (disch := omega) only [hcg, go_sem]
        exact ih (i + 1) _ _ ⟨by omega, hnx (hcg ▸ hch)⟩ (by omega) (by simp (disch := omega) only [subT, Int.natCast_add, Int.cast_ofNat_Int, go_sem] <;> (repeat' apply And.intro) <;> first | rfl | (congr 1; omega) | assumption) rfl
    · have hch : charB i c = false := by unfold charB; rw [letter_f (by omega), digit_f (by omega)]; rfl
      by_cases hi0 : i = 0
      · rcases hcc with hcc | hcc | hcc | hcc | hcc
        all_goals
          simp (disch := omega) only [hcg, go_sem]
          exact W_retR c65_ok rfl ⟨by rw [hno hch]; rfl, rfl⟩
      · rcases hcc with hcc | hcc | hcc | hcc | hcc
        all_goals
          simp (disch := omega) only [hcg, go_sem]
          exact W_retR c65_ok rfl ⟨by rw [hno hch]; rfl, rfl⟩
  · have hil : i = s.length := by omega
    rw [hil] at hall
    simp (disch := omega) only [go_sem]
    refine SRun.callR (within_ok (s.length : Nat) 1 40) ⟨[], rfl, rfl⟩ rfl ?_
    simp (disch := omega) only [List.getD_cons_zero, List.getD_cons_succ, go_sem]
    refine W_retR c65_ok rfl ⟨?_, rfl⟩
    rw [name_all hall]
    simp only [look, ev, V.bool.injEq, V.int.injEq, V.str.injEq, V.tup.injEq, V.agg.injEq, V.isl.injEq, List.cons.injEq, true_and, and_true, Nat.reduceEqDiff, Nat.reduceAdd, Nat.reduceSub, Nat.reduceMul, Nat.reducePow, Nat.reduceDiv, Nat.reduceMod, Int.reduceToNat, Nat.reduceLeDiff, Nat.reduceLT, Int.reduceEq, Int.reduceLT, Int.reduceLE, Int.reduceGT, Int.reduceGE, Int.reduceNeg, Int.reduceSub, Int.reduceAdd, Int.reduceMul, Int.reducePow, ne_eq, reduceCtorEq, ↓reduceIte]
    congr 1 <;> exact decide_eq_decide.2 (by omega)
theorem l00Letter_ok {c : Nat} (hc : c ≤ 255) : Ret Tryz.prog Γ 135 [.int .u8 c] σ (.bool (letterB c)) σ := by
  have hcc := char_cases c
  refine ret_of c135_ok rfl ?_
  simp (disch := omega) only [c135, go_sem]
  rcases hcc with hcc | hcc | hcc
  · have h := letter_t hcc
    rcases hcc with hcc | hcc | hcc
    all_goals
      simp (disch := omega) only [go_sem]
      exact W_retR c135_ok rfl ⟨by rw [h]; simp [look]; try omega, rfl⟩
  · have h := letter_f (c := c) (by omega)
    simp (disch := omega) only [go_sem]
    exact W_retR c135_ok rfl ⟨by rw [h]; simp [look]; try omega, rfl⟩
  · have h := letter_f (c := c) (by omega)
    rcases hcc with hcc | hcc | hcc | hcc | hcc
    all_goals
      simp (disch := omega) only [go_sem]
      exact W_retR c135_ok rfl ⟨by rw [h]; simp [look]; try omega, rfl⟩
theorem l00Digit_ok {c : Nat} (hc : c ≤ 255) : Ret Tryz.prog Γ 136 [.int .u8 c] σ (.bool (digitB c)) σ := by
  refine ret_of c136_ok rfl ?_
  simp (disch := omega) only [c136, go_sem]
  by_cases h1 : 48 ≤ c
  · simp (disch := omega) only [go_sem]
    exact W_retR c136_ok rfl ⟨by simp [look, digitB, h1]; try omega, rfl⟩
  · simp (disch := omega) only [go_sem]
    exact W_retR c136_ok rfl ⟨by simp [look, digitB, h1]; try omega, rfl⟩
end
section
attribute [local irreducible] SRun DS DRun
variable {Γ : St} {σ σ0 : St}
theorem l00Word_ok {s : List UInt8} (hl : s.length ≤ 1000000000000) : Ret Tryz.prog Γ 111 [.str s] σ (.bool (nameB s)) σ := by
  refine ret_of c111_ok rfl ?_
  simp (disch := omega) only [c111, go_sem]
  by_cases h1 : s.length < 1
  · simp (disch := omega) only [go_sem]
    refine W_retR c111_ok rfl ⟨?_, rfl⟩
    unfold nameB
    rw [decide_eq_false (show ¬ 1 ≤ s.length by omega)]; rfl
  by_cases h2 : s.length ≤ 40
  · have b0 := byteN_in (s.getD 0 0)
    have h1' : decide ((s.length : Int) < 1) = false := decide_eq_false (by omega)
    have h2' : decide ((s.length : Int) > 40) = false := decide_eq_false (by omega)
    simp (disch := omega) only [h1', h2', go_sem]
    refine SRun.callR (l00Letter_ok b0) ⟨[], rfl, rfl⟩ rfl ?_
    have hno := name_false (s := s) (i := 0) (by omega)
    generalize hlb : letterB (s.getD 0 0).toNat = q
    cases q with
    | false =>
      have hch : charB 0 (s.getD 0 0).toNat = false := by unfold charB; rw [hlb]; simp
      simp (disch := omega) only [go_sem]
      exact W_retR c111_ok rfl ⟨by rw [hno hch]; rfl, rfl⟩
    | true =>
      have hch : charB 0 (s.getD 0 0).toNat = true := by unfold charB; rw [hlb]; rfl
      have hone : ∀ j, j < 1 → charB j (s.getD j 0).toNat = true := fun j hj => by
        obtain rfl : j = 0 := by omega
        exact hch
      simp (disch := omega) only [go_sem]
      refine W_loopC (α := Nat) (fun i => 1 ≤ i ∧ i ≤ s.length ∧ ∀ j, j < i → charB j (s.getD j 0).toNat = true) (fun i => [(0, .str s), (3, .int .i64 (i : Nat))]) (fun _ => σ) (fun i => s.length - i) 1 ⟨by omega, by omega, hone⟩ (by simp (disch := omega) only [subT, Int.natCast_add, Int.cast_ofNat_Int, go_sem] <;> (repeat' apply And.intro) <;> first | rfl | (congr 1; omega) | assumption) rfl ?_
      rintro i ⟨hi1, hi, hall⟩ ih
      simp (disch := omega) only [go_sem]
      first | refine iteW_dec (fun hq => ?_) (fun hq => ?_) | refine iteW_of (fun hq => ?_) (fun hq => ?_)
      · have hlt : i < s.length := by omega
        have hno := name_false hlt
        have hnx := all_next (p := fun j => charB j (s.getD j 0).toNat) hall (i := i)
        have bi := byteN_in (s.getD i 0)
        simp (disch := omega) only [go_sem]
        generalize hcg : (s.getD i 0).toNat = c at *
        refine SRun.callR (l00Letter_ok bi) ⟨[], rfl, rfl⟩ rfl ?_
        generalize hlb2 : letterB c = q2
        cases q2 with
        | true =>
          simp (disch := omega) only [go_sem]
          exact ih (i + 1) _ _ ⟨by omega, by omega, hnx (by unfold charB; rw [hlb2]; rfl)⟩ (by omega) (by simp (disch := omega) only [subT, Int.natCast_add, Int.cast_ofNat_Int, go_sem] <;> (repeat' apply And.intro) <;> first | rfl | (congr 1; omega) | assumption) rfl
        | false =>
          simp (disch := omega) only [hcg, go_sem]
          refine SRun.callR (l00Digit_ok bi) ⟨[], rfl, rfl⟩ rfl ?_
          generalize hdb : digitB c = q3
          cases q3 with
          | true =>
            simp (disch := omega) only [go_sem]
            exact ih (i + 1) _ _ ⟨by omega, by omega, hnx (by unfold charB; rw [hlb2, hdb]; simp; omega)⟩ (by omega) (by simp (disch := omega) only [subT, Int.natCast_add, Int.cast_ofNat_Int, go_sem] <;> (repeat' apply And.intro) <;> first | rfl | (congr 1; omega) | assumption) rfl
          | false =>
            simp (disch := omega) only [go_sem]
            refine W_retR c111_ok rfl ⟨?_, rfl⟩
            rw [hno (by unfold charB; rw [hlb2, hdb]; rfl)]; rfl
      · have hil : i = s.length := by omega
        rw [hil] at hall
        simp (disch := omega) only [go_sem]
        refine W_retR c111_ok rfl ⟨?_, rfl⟩
        rw [name_all hall, decide_eq_true (show 1 ≤ s.length by omega), decide_eq_true h2]; rfl
  · simp (disch := omega) only [go_sem]
    refine W_retR c111_ok rfl ⟨?_, rfl⟩
    unfold nameB
    rw [decide_eq_false (show ¬ s.length ≤ 40 by omega), Bool.and_false, Bool.false_and]; rfl
theorem NameOKs_ok {s : List UInt8} (hl : s.length ≤ 1000000000000) : Ret Tryz.prog Γ 57 [.str s] σ (.bool (nameB s)) σ := by
  refine ret_of c57_ok rfl ?_
  simp (disch := omega) only [c57, go_sem]
  refine SRun.callR (l00Word_ok hl) ⟨[], rfl, rfl⟩ rfl ?_
  simp (disch := omega) only [List.getD_cons_zero, List.getD_cons_succ, go_sem]
  refine W_retR c57_ok rfl ⟨?_, rfl⟩
  rfl
def strsV (ss : List (List UInt8)) : List V := ss.map V.str
theorem strsV_len (ss : List (List UInt8)) : (strsV ss).length = ss.length := by simp [strsV]
theorem strsV_take (ss : List (List UInt8)) (i : Nat) : (strsV ss).take i = strsV (ss.take i) := by simp [strsV, List.map_take]
section
variable {P : Program} {f : FuncId} {n : Nat} {Q : V → St → Prop} {k : List It} {T : Ts} {g : GI} {l : List GI}
theorem stepW_iaddr_strs {ex : Bool} {ss : List (List UInt8)} {kk : IntKind} {m : Int} (h0 : 0 ≤ m) (h1 : m < ss.length) : stepW P Γ f n Q (.iaddr 1 (.c (.isl ex 1 (strsV ss))) (.c (.int kk m))) g l k T σ = W P Γ f n Q (.ops l :: k) (putT T g.d (.iptr [.str (ss.getD m.toNat [])])) σ := stepW_iaddr_map h0 h1
theorem stepK_iaddr_strs {K : V → St → Prop} {ex : Bool} {ss : List (List UInt8)} {kk : IntKind} {m : Int} (h0 : 0 ≤ m) (h1 : m < ss.length) : stepK (.iaddr 1 (.c (.isl ex 1 (strsV ss))) (.c (.int kk m))) σ K = K (.iptr [.str (ss.getD m.toNat [])]) σ := stepK_iaddr_map h0 h1
end
attribute [go_sem] stepW_iaddr_strs stepK_iaddr_strs strsV_len
/-- Where a name stands first. -/
def placeP (ss : List (List UInt8)) (w : List UInt8) : Int := match ss.findIdx? (· == w) with | some i => (i : Int) | none => -1
theorem place_some {ss : List (List UInt8)} {w : List UInt8} {i : Nat} (hi : i < ss.length) (hno : ∀ j, j < i → ss.getD j [] ≠ w) (he : ss.getD i [] = w) : placeP ss w = i := by
  have : ss.findIdx? (· == w) = some i := by
    rw [List.findIdx?_eq_some_iff_getElem]
    refine ⟨hi, by simpa [List.getD, hi] using he, fun j hj => ?_⟩
    have := hno j hj
    simpa [List.getD, show j < ss.length by omega] using this
  unfold placeP; rw [this]
theorem place_none {ss : List (List UInt8)} {w : List UInt8} (hno : ∀ j, j < ss.length → ss.getD j [] ≠ w) : placeP ss w = -1 := by
  have : ss.findIdx? (· == w) = none := by
    rw [List.findIdx?_eq_none_iff]
    intro x hx
    obtain ⟨j, hj, rfl⟩ := List.getElem_of_mem hx
    have := hno j hj
    simpa [List.getD, hj] using this
  unfold placeP; rw [this]
theorem indexStr_ok {ex : Bool} {ss : List (List UInt8)} {w : List UInt8} (hl : ss.length ≤ 1000000000000) : Ret Tryz.prog Γ 77 [.isl ex 1 (strsV ss), .str w] σ (.int .i64 (placeP ss w)) σ := by
  refine ret_of c77_ok rfl ?_
  simp (disch := omega) only [c77, go_sem]
  refine W_loopC (α := Nat) (fun i => i ≤ ss.length ∧ ∀ j, j < i → ss.getD j [] ≠ w) (fun i => [(0, .isl ex 1 (strsV ss)), (1, .str w), (7, .int .i64 ss.length), (8, .int .i64 (i : Nat))]) (fun _ => σ) (fun i => ss.length - i) 0 ⟨by omega, fun j hj => by omega⟩ (by simp (disch := omega) only [subT, Int.natCast_add, Int.cast_ofNat_Int, go_sem] <;> (repeat' apply And.intro) <;> first | rfl | (congr 1; omega) | assumption) rfl ?_
  rintro i ⟨hi, hno⟩ ih
  simp (disch := omega) only [go_sem]
  first | refine iteW_dec (fun hq => ?_) (fun hq => ?_) | refine iteW_of (fun hq => ?_) (fun hq => ?_)
  · simp (disch := omega) only [go_sem]
    first | refine iteW_dec (fun he => ?_) (fun he => ?_) | refine iteW_of (fun he => ?_) (fun he => ?_)
    · simp (disch := omega) only [go_sem]
      exact W_retR c77_ok rfl ⟨by rw [place_some (by omega) hno (eq_of_beq he).symm]; rfl, rfl⟩
    · simp (disch := omega) only [go_sem]
      refine ih (i + 1) _ _ ⟨by omega, fun j hj => ?_⟩ (by omega) (by simp (disch := omega) only [subT, Int.natCast_add, Int.cast_ofNat_Int, go_sem] <;> (repeat' apply And.intro) <;> first | rfl | (congr 1; omega) | assumption) rfl
      by_cases e : j = i
      · subst e; exact fun e => by rw [e] at he; simp at he
      · exact hno j (by omega)
  · have hil : i = ss.length := by omega
    rw [hil] at hno
    simp (disch := omega) only [go_sem]
    exact W_retR c77_ok rfl ⟨by rw [place_none hno]; rfl, rfl⟩
theorem l06Place_ok {ex : Bool} {ss : List (List UInt8)} {w : List UInt8} (hl : ss.length ≤ 1000000000000) : Ret Tryz.prog Γ 58 [.isl ex 1 (strsV ss), .str w] σ (.int .i64 (placeP ss w)) σ := by
  refine ret_of c58_ok rfl ?_
  simp (disch := omega) only [c58, go_sem]
  refine W_loopC (α := Nat) (fun i => i ≤ ss.length ∧ ∀ j, j < i → ss.getD j [] ≠ w) (fun i => [(0, .isl ex 1 (strsV ss)), (1, .str w), (5, .int .i64 (i : Nat))]) (fun _ => σ) (fun i => ss.length - i) 0 ⟨by omega, fun j hj => by omega⟩ (by simp (disch := omega) only [subT, Int.natCast_add, Int.cast_ofNat_Int, go_sem] <;> (repeat' apply And.intro) <;> first | rfl | (congr 1; omega) | assumption) rfl ?_
  rintro i ⟨hi, hno⟩ ih
  simp (disch := omega) only [go_sem]
  first | refine iteW_dec (fun hq => ?_) (fun hq => ?_) | refine iteW_of (fun hq => ?_) (fun hq => ?_)
  · simp (disch := omega) only [go_sem]
    first | refine iteW_dec (fun he => ?_) (fun he => ?_) | refine iteW_of (fun he => ?_) (fun he => ?_)
    · simp (disch := omega) only [go_sem]
      exact W_retR c58_ok rfl ⟨by rw [place_some (by omega) hno (eq_of_beq he)]; rfl, rfl⟩
    · simp (disch := omega) only [go_sem]
      refine ih (i + 1) _ _ ⟨by omega, fun j hj => ?_⟩ (by omega) (by simp (disch := omega) only [subT, Int.natCast_add, Int.cast_ofNat_Int, go_sem] <;> (repeat' apply And.intro) <;> first | rfl | (congr 1; omega) | assumption) rfl
      by_cases e : j = i
      · subst e; exact fun e => by rw [e] at he; simp at he
      · exact hno j (by omega)
  · have hil : i = ss.length := by omega
    rw [hil] at hno
    simp (disch := omega) only [go_sem]
    exact W_retR c58_ok rfl ⟨by rw [place_none hno]; rfl, rfl⟩
theorem place_ge (ss : List (List UInt8)) (w : List UInt8) : decide (placeP ss w ≥ 0) = ss.contains w := by
  unfold placeP
  cases h : ss.findIdx? (· == w) with
  | some i =>
    rw [List.findIdx?_eq_some_iff_getElem] at h
    obtain ⟨hi, he, _⟩ := h
    have : ss.contains w = true := List.contains_iff_mem.2 (by have e : ss[i] = w := by simpa using he
                                                               rw [← e]; exact List.getElem_mem hi)
    rw [this]; exact decide_eq_true (by simp only; omega)
  | none =>
    rw [List.findIdx?_eq_none_iff] at h
    have : ss.contains w = false := by
      rw [Bool.eq_false_iff]; intro e
      have := h w (List.contains_iff_mem.1 e)
      simp at this
    rw [this]; rfl
theorem containsStr_ok {ex : Bool} {ss : List (List UInt8)} {w : List UInt8} (hl : ss.length ≤ 1000000000000) : Ret Tryz.prog Γ 66 [.isl ex 1 (strsV ss), .str w] σ (.bool (ss.contains w)) σ := by
  refine ret_of c66_ok rfl ?_
  simp (disch := omega) only [c66, go_sem]
  refine SRun.callR (indexStr_ok (ex := ex) (ss := ss) (w := w) hl) ⟨[], rfl, rfl⟩ rfl ?_
  simp (disch := omega) only [List.getD_cons_zero, List.getD_cons_succ, go_sem]
  refine W_retR c66_ok rfl ⟨?_, rfl⟩
  rw [← place_ge]; rfl
end
section
attribute [local irreducible] SRun DS DRun
variable {Γ : St} {σ σ0 : St}
structure Link where
  a : Int
  b : Int
  cost : Int
  deriving Inhabited
structure Imp where
  at_ : Int
  from_ : Int
  when_ : Int
  do_ : Int
  n : Int
  deriving Inhabited
structure Fil where
  at_ : Int
  to : Int
  low : Int
  high : Int
  deriving Inhabited
structure Net where
  routers : List (List UInt8)
  links : List Link
  origins : List Int
  externals : List Int
  imports : List Imp
  filters : List Fil
def linkC (l : Link) : List V := [.int .i64 l.a, .int .i64 l.b, .int .i64 l.cost]
def impC (x : Imp) : List V := [.int .i64 x.at_, .int .i64 x.from_, .int .i64 x.when_, .int .i64 x.do_, .int .i64 x.n]
def filC (x : Fil) : List V := [.int .i64 x.at_, .int .i64 x.to, .int .i64 x.low, .int .i64 x.high]
def linksV (ls : List Link) : List V := ls.map fun l => .agg (linkC l)
def impsV (xs : List Imp) : List V := xs.map fun x => .agg (impC x)
def filsV (xs : List Fil) : List V := xs.map fun x => .agg (filC x)
def netC (n : Net) : List V := [.isl false 1 (strsV n.routers), .isl false 3 (linksV n.links), .isl false 1 (ints n.origins), .isl false 1 (ints n.externals), .isl false 5 (impsV n.imports), .isl false 4 (filsV n.filters)]
def netV (n : Net) : V := .agg (netC n)
theorem linksV_len (ls : List Link) : (linksV ls).length = ls.length := by simp [linksV]
theorem impsV_len (ls : List Imp) : (impsV ls).length = ls.length := by simp [impsV]
theorem filsV_len (ls : List Fil) : (filsV ls).length = ls.length := by simp [filsV]
theorem linksV_take (ls : List Link) (i : Nat) : (linksV ls).take i = linksV (ls.take i) := by simp [linksV, List.map_take]
theorem net_one (n : Net) : ∀ c ∈ (netV n).cells, c.one = true := by simp [netV, netC, V.cells, V.one]
section
variable {P : Program} {f : FuncId} {n : Nat} {Q : V → St → Prop} {k : List It} {T : Ts} {g : GI} {l : List GI} {K : V → St → Prop}
theorem stepW_iaddr_links {ex : Bool} {xs : List Link} {kk : IntKind} {m : Int} (h0 : 0 ≤ m) (h1 : m < xs.length) : stepW P Γ f n Q (.iaddr 3 (.c (.isl ex 3 (linksV xs))) (.c (.int kk m))) g l k T σ = W P Γ f n Q (.ops l :: k) (putT T g.d (.iptr (linkC (xs.getD m.toNat default)))) σ := stepW_iaddr_map h0 h1
theorem stepK_iaddr_links {ex : Bool} {xs : List Link} {kk : IntKind} {m : Int} (h0 : 0 ≤ m) (h1 : m < xs.length) : stepK (.iaddr 3 (.c (.isl ex 3 (linksV xs))) (.c (.int kk m))) σ K = K (.iptr (linkC (xs.getD m.toNat default))) σ := stepK_iaddr_map h0 h1
theorem stepW_iaddr_imps {ex : Bool} {xs : List Imp} {kk : IntKind} {m : Int} (h0 : 0 ≤ m) (h1 : m < xs.length) : stepW P Γ f n Q (.iaddr 5 (.c (.isl ex 5 (impsV xs))) (.c (.int kk m))) g l k T σ = W P Γ f n Q (.ops l :: k) (putT T g.d (.iptr (impC (xs.getD m.toNat default)))) σ := stepW_iaddr_map h0 h1
theorem stepK_iaddr_imps {ex : Bool} {xs : List Imp} {kk : IntKind} {m : Int} (h0 : 0 ≤ m) (h1 : m < xs.length) : stepK (.iaddr 5 (.c (.isl ex 5 (impsV xs))) (.c (.int kk m))) σ K = K (.iptr (impC (xs.getD m.toNat default))) σ := stepK_iaddr_map h0 h1
theorem stepW_iaddr_fils {ex : Bool} {xs : List Fil} {kk : IntKind} {m : Int} (h0 : 0 ≤ m) (h1 : m < xs.length) : stepW P Γ f n Q (.iaddr 4 (.c (.isl ex 4 (filsV xs))) (.c (.int kk m))) g l k T σ = W P Γ f n Q (.ops l :: k) (putT T g.d (.iptr (filC (xs.getD m.toNat default)))) σ := stepW_iaddr_map h0 h1
theorem stepK_iaddr_fils {ex : Bool} {xs : List Fil} {kk : IntKind} {m : Int} (h0 : 0 ≤ m) (h1 : m < xs.length) : stepK (.iaddr 4 (.c (.isl ex 4 (filsV xs))) (.c (.int kk m))) σ K = K (.iptr (filC (xs.getD m.toNat default))) σ := stepK_iaddr_map h0 h1
end
attribute [go_sem] stepW_iaddr_links stepK_iaddr_links stepW_iaddr_imps stepK_iaddr_imps stepW_iaddr_fils stepK_iaddr_fils linksV_len impsV_len filsV_len
def firstP {α : Type} (p : α → Bool) (xs : List α) : Int := match xs.findIdx? p with | some i => (i : Int) | none => -1
section
variable {α : Type} [Inhabited α] {p : α → Bool} {xs : List α}
theorem first_some {i : Nat} (hi : i < xs.length) (hno : ∀ j, j < i → p (xs.getD j default) = false) (he : p (xs.getD i default) = true) : firstP p xs = i := by
  have : xs.findIdx? p = some i := by
    rw [List.findIdx?_eq_some_iff_getElem]
    refine ⟨hi, by simpa [List.getD, hi] using he, fun j hj => ?_⟩
    have := hno j hj
    simpa [List.getD, show j < xs.length by omega] using this
  unfold firstP; rw [this]
theorem first_none (hno : ∀ j, j < xs.length → p (xs.getD j default) = false) : firstP p xs = -1 := by
  have : xs.findIdx? p = none := by
    rw [List.findIdx?_eq_none_iff]
    intro x hx
    obtain ⟨j, hj, rfl⟩ := List.getElem_of_mem hx
    have := hno j hj
    simpa [List.getD, hj] using this
  unfold firstP; rw [this]
omit [Inhabited α] in
theorem first_any : decide (firstP p xs ≥ 0) = xs.any p := any_find xs p
omit [Inhabited α] in
theorem first_in (p : α → Bool) (xs : List α) : -1 ≤ firstP p xs ∧ firstP p xs < xs.length := by
  unfold firstP
  cases h : xs.findIdx? p with
  | some i =>
    rw [List.findIdx?_eq_some_iff_getElem] at h
    have := h.1
    simp only; omega
  | none => simp only; omega
/-- Whether one stands before. -/
theorem first_before {i : Nat} (hi : i < xs.length) (hp : p (xs.getD i default) = true) : decide (firstP p xs < i) = (xs.take i).any p := by
  cases h : xs.findIdx? p with
  | none =>
    rw [List.findIdx?_eq_none_iff] at h
    have := h _ (getD_mem default hi)
    rw [hp] at this; cases this
  | some k =>
    have hf : firstP p xs = k := by unfold firstP; rw [h]
    rw [hf]
    rw [List.findIdx?_eq_some_iff_getElem] at h
    obtain ⟨hk, hpk, hno⟩ := h
    by_cases hki : k < i
    · rw [decide_eq_true (by omega)]
      symm; rw [List.any_eq_true]
      refine ⟨xs[k], ?_, hpk⟩
      have : (xs.take i)[k]'(by rw [List.length_take]; omega) = xs[k] := by simp
      rw [← this]; exact List.getElem_mem _
    · rw [decide_eq_false (by omega)]
      symm; rw [List.any_eq_false]
      intro x hx
      obtain ⟨j, hj, rfl⟩ := List.getElem_of_mem hx
      rw [List.length_take] at hj
      have := hno j (by omega)
      simpa using this
end
theorem indexLk_ok {ex : Bool} {xs : List Link} {F : FuncId} {caps : List V} {p : Link → Bool} (hl : xs.length ≤ 1000000000000) (hp : ∀ x ∈ xs, Ret Tryz.prog Γ F (.agg (linkC x) :: caps) σ (.bool (p x)) σ) :
    Ret Tryz.prog Γ 112 [.isl ex 3 (linksV xs), .fn F caps] σ (.int .i64 (firstP p xs)) σ := by
  refine ret_of c112_ok rfl ?_
  simp (disch := omega) only [c112, go_sem]
  refine W_loopC (α := Nat) (fun i => i ≤ xs.length ∧ ∀ j, j < i → p (xs.getD j default) = false) (fun i => [(0, .isl ex 3 (linksV xs)), (1, .fn F caps), (7, .int .i64 xs.length), (8, .int .i64 (i : Nat))]) (fun _ => σ) (fun i => xs.length - i) 0 ⟨by omega, fun j hj => by omega⟩ (by simp (disch := omega) only [subT, Int.natCast_add, Int.cast_ofNat_Int, go_sem] <;> (repeat' apply And.intro) <;> first | rfl | (congr 1; omega) | assumption) rfl ?_
  rintro i ⟨hi, hno⟩ ih
  simp (disch := omega) only [go_sem]
  first | refine iteW_dec (fun hq => ?_) (fun hq => ?_) | refine iteW_of (fun hq => ?_) (fun hq => ?_)
  · simp (disch := omega) only [go_sem]
    refine SRun.callR (hp _ (getD_mem default (by omega : i < xs.length))) ⟨caps, rfl, rfl⟩ rfl ?_
    generalize hpb : p (xs.getD i default) = q
    cases q with
    | true =>
      simp (disch := omega) only [go_sem]
      exact W_retR c112_ok rfl ⟨by rw [first_some (by omega) hno hpb]; rfl, rfl⟩
    | false =>
      simp (disch := omega) only [go_sem]
      refine ih (i + 1) _ _ ⟨by omega, fun j hj => ?_⟩ (by omega) (by simp (disch := omega) only [subT, Int.natCast_add, Int.cast_ofNat_Int, go_sem] <;> (repeat' apply And.intro) <;> first | rfl | (congr 1; omega) | assumption) rfl
      by_cases e : j = i
      · subst e; exact hpb
      · exact hno j (by omega)
  · have hil : i = xs.length := by omega
    rw [hil] at hno
    simp (disch := omega) only [go_sem]
    exact W_retR c112_ok rfl ⟨by rw [first_none hno]; rfl, rfl⟩
theorem indexIm_ok {ex : Bool} {xs : List Imp} {F : FuncId} {caps : List V} {p : Imp → Bool} (hl : xs.length ≤ 1000000000000) (hp : ∀ x ∈ xs, Ret Tryz.prog Γ F (.agg (impC x) :: caps) σ (.bool (p x)) σ) :
    Ret Tryz.prog Γ 114 [.isl ex 5 (impsV xs), .fn F caps] σ (.int .i64 (firstP p xs)) σ := by
  refine ret_of c114_ok rfl ?_
  simp (disch := omega) only [c114, go_sem]
  refine W_loopC (α := Nat) (fun i => i ≤ xs.length ∧ ∀ j, j < i → p (xs.getD j default) = false) (fun i => [(0, .isl ex 5 (impsV xs)), (1, .fn F caps), (7, .int .i64 xs.length), (8, .int .i64 (i : Nat))]) (fun _ => σ) (fun i => xs.length - i) 0 ⟨by omega, fun j hj => by omega⟩ (by simp (disch := omega) only [subT, Int.natCast_add, Int.cast_ofNat_Int, go_sem] <;> (repeat' apply And.intro) <;> first | rfl | (congr 1; omega) | assumption) rfl ?_
  rintro i ⟨hi, hno⟩ ih
  simp (disch := omega) only [go_sem]
  first | refine iteW_dec (fun hq => ?_) (fun hq => ?_) | refine iteW_of (fun hq => ?_) (fun hq => ?_)
  · simp (disch := omega) only [go_sem]
    refine SRun.callR (hp _ (getD_mem default (by omega : i < xs.length))) ⟨caps, rfl, rfl⟩ rfl ?_
    generalize hpb : p (xs.getD i default) = q
    cases q with
    | true =>
      simp (disch := omega) only [go_sem]
      exact W_retR c114_ok rfl ⟨by rw [first_some (by omega) hno hpb]; rfl, rfl⟩
    | false =>
      simp (disch := omega) only [go_sem]
      refine ih (i + 1) _ _ ⟨by omega, fun j hj => ?_⟩ (by omega) (by simp (disch := omega) only [subT, Int.natCast_add, Int.cast_ofNat_Int, go_sem] <;> (repeat' apply And.intro) <;> first | rfl | (congr 1; omega) | assumption) rfl
      by_cases e : j = i
      · subst e; exact hpb
      · exact hno j (by omega)
  · have hil : i = xs.length := by omega
    rw [hil] at hno
    simp (disch := omega) only [go_sem]
    exact W_retR c114_ok rfl ⟨by rw [first_none hno]; rfl, rfl⟩
theorem containsIm_ok {ex : Bool} {xs : List Imp} {F : FuncId} {caps : List V} {p : Imp → Bool} (hl : xs.length ≤ 1000000000000) (hp : ∀ x ∈ xs, Ret Tryz.prog Γ F (.agg (impC x) :: caps) σ (.bool (p x)) σ) :
    Ret Tryz.prog Γ 69 [.isl ex 5 (impsV xs), .fn F caps] σ (.bool (xs.any p)) σ := by
  refine ret_of c69_ok rfl ?_
  simp (disch := omega) only [c69, go_sem]
  refine SRun.callR (indexIm_ok (ex := ex) hl hp) ⟨[], rfl, rfl⟩ rfl ?_
  simp (disch := omega) only [go_sem]
  exact W_retR c69_ok rfl ⟨by rw [← first_any]; rfl, rfl⟩
theorem indexFi_ok {ex : Bool} {xs : List Fil} {F : FuncId} {caps : List V} {p : Fil → Bool} (hl : xs.length ≤ 1000000000000) (hp : ∀ x ∈ xs, Ret Tryz.prog Γ F (.agg (filC x) :: caps) σ (.bool (p x)) σ) :
    Ret Tryz.prog Γ 115 [.isl ex 4 (filsV xs), .fn F caps] σ (.int .i64 (firstP p xs)) σ := by
  refine ret_of c115_ok rfl ?_
  simp (disch := omega) only [c115, go_sem]
  refine W_loopC (α := Nat) (fun i => i ≤ xs.length ∧ ∀ j, j < i → p (xs.getD j default) = false) (fun i => [(0, .isl ex 4 (filsV xs)), (1, .fn F caps), (7, .int .i64 xs.length), (8, .int .i64 (i : Nat))]) (fun _ => σ) (fun i => xs.length - i) 0 ⟨by omega, fun j hj => by omega⟩ (by simp (disch := omega) only [subT, Int.natCast_add, Int.cast_ofNat_Int, go_sem] <;> (repeat' apply And.intro) <;> first | rfl | (congr 1; omega) | assumption) rfl ?_
  rintro i ⟨hi, hno⟩ ih
  simp (disch := omega) only [go_sem]
  first | refine iteW_dec (fun hq => ?_) (fun hq => ?_) | refine iteW_of (fun hq => ?_) (fun hq => ?_)
  · simp (disch := omega) only [go_sem]
    refine SRun.callR (hp _ (getD_mem default (by omega : i < xs.length))) ⟨caps, rfl, rfl⟩ rfl ?_
    generalize hpb : p (xs.getD i default) = q
    cases q with
    | true =>
      simp (disch := omega) only [go_sem]
      exact W_retR c115_ok rfl ⟨by rw [first_some (by omega) hno hpb]; rfl, rfl⟩
    | false =>
      simp (disch := omega) only [go_sem]
      refine ih (i + 1) _ _ ⟨by omega, fun j hj => ?_⟩ (by omega) (by simp (disch := omega) only [subT, Int.natCast_add, Int.cast_ofNat_Int, go_sem] <;> (repeat' apply And.intro) <;> first | rfl | (congr 1; omega) | assumption) rfl
      by_cases e : j = i
      · subst e; exact hpb
      · exact hno j (by omega)
  · have hil : i = xs.length := by omega
    rw [hil] at hno
    simp (disch := omega) only [go_sem]
    exact W_retR c115_ok rfl ⟨by rw [first_none hno]; rfl, rfl⟩
theorem containsFi_ok {ex : Bool} {xs : List Fil} {F : FuncId} {caps : List V} {p : Fil → Bool} (hl : xs.length ≤ 1000000000000) (hp : ∀ x ∈ xs, Ret Tryz.prog Γ F (.agg (filC x) :: caps) σ (.bool (p x)) σ) :
    Ret Tryz.prog Γ 72 [.isl ex 4 (filsV xs), .fn F caps] σ (.bool (xs.any p)) σ := by
  refine ret_of c72_ok rfl ?_
  simp (disch := omega) only [c72, go_sem]
  refine SRun.callR (indexFi_ok (ex := ex) hl hp) ⟨[], rfl, rfl⟩ rfl ?_
  simp (disch := omega) only [go_sem]
  exact W_retR c72_ok rfl ⟨by rw [← first_any]; rfl, rfl⟩
def joinB (x y : Int) (l : Link) : Bool := (decide (l.a = x) && decide (l.b = y)) || (decide (l.a = y) && decide (l.b = x))
theorem linkOf1_ok {l : Link} {b1 b2 : Nat} {x y : Int} (h1 : σ b1 = some [.int .i64 x]) (h2 : σ b2 = some [.int .i64 y]) : Ret Tryz.prog Γ 113 [.agg (linkC l), .ptr b1 0, .ptr b2 0] σ (.bool (joinB x y l)) σ := by
  refine ret_of c113_ok rfl ?_
  simp (disch := omega) only [c113, linkC, go_sem]
  refine SRun.boxR (by simp [ev, look, V.cells, V.one]) ?_
  intro b3 hb3
  have n1 : b1 ≠ b3 := fun e => by subst e; rw [h1] at hb3; cases hb3
  have n2 : b2 ≠ b3 := fun e => by subst e; rw [h2] at hb3; cases hb3
  unfold joinB
  generalize h3 : decide (l.a = x) = p1
  generalize h4 : decide (l.b = y) = p2
  generalize h5 : decide (l.a = y) = p3
  generalize h6 : decide (l.b = x) = p4
  cases p1 <;> cases p2 <;> cases p3 <;> cases p4
  all_goals
    simp (disch := omega) only [h1, h2, n1, n2, h3, h4, h5, h6, go_sem]
    exact W_retC c113_ok rfl (Conv.drop _ (le_upd hb3)) ⟨rfl, rfl⟩
def linkP (ls : List Link) (x y : Int) : Int := firstP (joinB x y) ls
theorem linkOf_ok {n : Net} {x y : Int} (hl : n.links.length ≤ 1000000000000) : Ret Tryz.prog Γ 68 [netV n, .int .i64 x, .int .i64 y] σ (.int .i64 (linkP n.links x y)) σ := by
  refine ret_of c68_ok rfl ?_
  simp (disch := omega) only [c68, netV, go_sem]
  refine SRun.boxR (net_one n) ?_
  intro b3 hb3
  simp (disch := omega) only [go_sem]
  refine SRun.boxR (by simp [ev, look, V.cells, V.one]) ?_
  intro b4 hb4
  simp (disch := omega) only [go_sem]
  refine SRun.boxR (by simp [ev, look, V.cells, V.one]) ?_
  intro b5 hb5
  simp (disch := omega) only [go_sem]
  have n5 := upd_none.1 hb5
  have n5' := upd_none.1 n5.2
  have n4 := upd_none.1 hb4
  have g3 : upd (upd (upd σ b3 (netC n)) b4 [V.int .i64 x]) b5 [V.int .i64 y] b3 = some (netC n) := by rw [upd_ne _ _ n5'.1.symm, upd_ne _ _ n4.1.symm, upd_same]
  have g4 : upd (upd (upd σ b3 (netC n)) b4 [V.int .i64 x]) b5 [V.int .i64 y] b4 = some [V.int .i64 x] := by rw [upd_ne _ _ n5.1.symm, upd_same]
  have g5 := upd_same (upd (upd σ b3 (netC n)) b4 [V.int .i64 x]) b5 [V.int .i64 y]
  have hσ : ∀ d z, σ d = some z → upd (upd (upd σ b3 (netC n)) b4 [V.int .i64 x]) b5 [V.int .i64 y] d = some z := fun d z h => le_upd hb5 _ _ (le_upd hb4 _ _ (le_upd hb3 _ _ h))
  generalize upd (upd (upd σ b3 (netC n)) b4 [V.int .i64 x]) b5 [V.int .i64 y] = s1 at *
  simp (disch := omega) only [g3, netC, go_sem]
  refine SRun.callR (indexLk_ok (ex := false) (xs := n.links) (F := 113) (caps := [.ptr b4 0, .ptr b5 0]) (p := joinB x y) hl fun l _ => linkOf1_ok g4 g5) ⟨[], rfl, rfl⟩ rfl ?_
  simp (disch := omega) only [go_sem]
  exact W_retC c68_ok rfl (Conv.drop _ hσ) ⟨rfl, rfl⟩
end
section
attribute [local irreducible] SRun DS DRun
variable {Γ : St} {σ σ0 : St}
theorem l06Link_ok {ex : Bool} {ls : List Link} {x y : Int} (hl : ls.length ≤ 1000000000000) : Ret Tryz.prog Γ 59 [.isl ex 3 (linksV ls), .int .i64 x, .int .i64 y] σ (.int .i64 (linkP ls x y)) σ := by
  refine ret_of c59_ok rfl ?_
  simp (disch := omega) only [c59, go_sem]
  refine W_loopC (α := Nat) (fun i => i ≤ ls.length ∧ ∀ j, j < i → joinB x y (ls.getD j default) = false) (fun i => [(0, .isl ex 3 (linksV ls)), (1, .int .i64 x), (2, .int .i64 y), (7, .int .i64 (i : Nat))]) (fun _ => σ) (fun i => ls.length - i) 0 ⟨by omega, fun j hj => by omega⟩ (by simp (disch := omega) only [subT, Int.natCast_add, Int.cast_ofNat_Int, go_sem] <;> (repeat' apply And.intro) <;> first | rfl | (congr 1; omega) | assumption) rfl ?_
  rintro i ⟨hi, hno⟩ ih
  simp (disch := omega) only [go_sem]
  first | refine iteW_dec (fun hq => ?_) (fun hq => ?_) | refine iteW_of (fun hq => ?_) (fun hq => ?_)
  · have nx : joinB x y (ls.getD i default) = false → ∀ j, j < i + 1 → joinB x y (ls.getD j default) = false := fun h j hj => by
      by_cases e : j = i
      · subst e; exact h
      · exact hno j (by omega)
    have fd : joinB x y (ls.getD i default) = true → linkP ls x y = i := fun h => first_some (by omega) hno h
    have hjb : joinB x y (ls.getD i default) = ((decide ((ls.getD i default).a = x) && decide ((ls.getD i default).b = y)) || (decide ((ls.getD i default).a = y) && decide ((ls.getD i default).b = x))) := rfl
    simp (disch := omega) only [linkC, go_sem]
    generalize h3 : decide ((ls.getD i default).a = x) = p1 at *
    generalize h4 : decide ((ls.getD i default).b = y) = p2 at *
    generalize h5 : decide ((ls.getD i default).a = y) = p3 at *
    generalize h6 : decide ((ls.getD i default).b = x) = p4 at *
    cases p1 <;> cases p2 <;> cases p3 <;> cases p4
    all_goals
      simp (disch := omega) only [h3, h4, h5, h6, linkC, go_sem]
      first
      | exact W_retR c59_ok rfl ⟨by rw [fd hjb]; rfl, rfl⟩
      | exact ih (i + 1) _ _ ⟨by omega, nx hjb⟩ (by omega) (by simp (disch := omega) only [subT, Int.natCast_add, Int.cast_ofNat_Int, go_sem] <;> (repeat' apply And.intro) <;> first | rfl | (congr 1; omega) | assumption) rfl
  · have hil : i = ls.length := by omega
    rw [hil] at hno
    simp (disch := omega) only [go_sem]
    exact W_retR c59_ok rfl ⟨by rw [show linkP ls x y = -1 from first_none hno]; rfl, rfl⟩
def routerB (r x : Int) : Bool := decide (0 ≤ x) && decide (x ≤ r - 1)
theorem isRouter_ok {n : Net} {x : Int} (hl : n.routers.length ≤ 1000000000000) : Ret Tryz.prog Γ 67 [netV n, .int .i64 x] σ (.bool (routerB n.routers.length x)) σ := by
  refine ret_of c67_ok rfl ?_
  simp (disch := omega) only [c67, netV, go_sem]
  refine SRun.boxR (net_one n) ?_
  intro b2 hb2
  simp (disch := omega) only [netC, go_sem]
  refine SRun.callR (within_ok x 0 ((n.routers.length : Int) - 1)) ⟨[], rfl, rfl⟩ rfl ?_
  simp (disch := omega) only [go_sem]
  exact W_retC c67_ok rfl (Conv.drop _ (le_upd hb2)) ⟨rfl, rfl⟩
def riseB (r : Int) (xs : List Int) (i : Nat) : Bool := routerB r (xs.getD i 0) && (decide (i = 0) || decide (xs.getD (i - 1) 0 < xs.getD i 0))
def risingB (r : Int) (xs : List Int) : Bool := (List.range xs.length).all (riseB r xs)
theorem rising_false {r : Int} {xs : List Int} {i : Nat} (hi : i < xs.length) (h : riseB r xs i = false) : risingB r xs = false := by
  unfold risingB; rw [List.all_eq_false]; exact ⟨i, List.mem_range.2 hi, by rw [h]; simp⟩
theorem rising_true {r : Int} {xs : List Int} (h : ∀ j, j < xs.length → riseB r xs j = true) : risingB r xs = true := by
  unfold risingB; rw [List.all_eq_true]; intro i hi; exact h i (List.mem_range.1 hi)
theorem areRouters_ok {n : Net} {ex : Bool} {xs : List Int} (hl : n.routers.length ≤ 1000000000000) (hx : xs.length ≤ 1000000000000) : Ret Tryz.prog Γ 74 [netV n, .isl ex 1 (ints xs)] σ (.bool (risingB n.routers.length xs)) σ := by
  refine ret_of c74_ok rfl ?_
  simp (disch := omega) only [c74, netV, go_sem]
  refine SRun.boxR (net_one n) ?_
  intro b2 hb2
  have g2 := upd_same σ b2 (netC n)
  simp (disch := omega) only [go_sem]
  refine W_loopC (α := Nat) (fun i => i ≤ xs.length ∧ ∀ j, j < i → riseB n.routers.length xs j = true) (fun i => [(1, .isl ex 1 (ints xs)), (2, .ptr b2 0), (7, .isl ex 1 (ints xs)), (8, .int .i64 xs.length), (9, .int .i64 (i : Nat))]) (fun _ => upd σ b2 (netC n)) (fun i => xs.length - i) 0 ⟨by omega, fun j hj => by omega⟩ (by simp (disch := omega) only [subT, Int.natCast_add, Int.cast_ofNat_Int, go_sem] <;> (repeat' apply And.intro) <;> first | rfl | (congr 1; omega) | assumption) rfl ?_
  rintro i ⟨hi, hall⟩ ih
  simp (disch := omega) only [go_sem]
  first | refine iteW_dec (fun hq => ?_) (fun hq => ?_) | refine iteW_of (fun hq => ?_) (fun hq => ?_)
  · have hno := rising_false (r := n.routers.length) (xs := xs) (i := i) (by omega)
    have hnx := all_next (p := fun j => riseB n.routers.length xs j) hall (i := i)
    have hrb : riseB n.routers.length xs i = (routerB n.routers.length (xs.getD i 0) && (decide (i = 0) || decide (xs.getD (i - 1) 0 < xs.getD i 0))) := rfl
    have hlen : (netC n).take 6 = netC n := rfl
    have hlen2 : (netC n).length = 6 := rfl
    simp (disch := omega) only [hlen, hlen2, go_sem]
    refine SRun.callR (isRouter_ok (n := n) hl) ⟨[], rfl, rfl⟩ rfl ?_
    generalize routerB n.routers.length (xs.getD i 0) = q at *
    cases q with
    | false =>
      simp (disch := omega) only [go_sem]
      exact W_retC c74_ok rfl (Conv.drop _ (le_upd hb2)) ⟨by rw [hno hrb]; rfl, rfl⟩
    | true =>
      by_cases hi0 : i = 0
      · have hz : decide ((i : Int) > 0) = false := decide_eq_false (by omega)
        rw [decide_eq_true hi0] at hrb
        simp (disch := omega) only [hz, go_sem]
        exact ih (i + 1) _ _ ⟨by omega, hnx hrb⟩ (by omega) (by simp (disch := omega) only [subT, Int.natCast_add, Int.cast_ofNat_Int, go_sem] <;> (repeat' apply And.intro) <;> first | rfl | (congr 1; omega) | assumption) rfl
      · have hz : decide ((i : Int) > 0) = true := decide_eq_true (by omega)
        have e1 : ((i : Int) - 1).toNat = i - 1 := by omega
        rw [decide_eq_false hi0] at hrb
        by_cases hlt : xs.getD (i - 1) 0 < xs.getD i 0
        · have hg : decide (xs.getD (i - 1) 0 ≥ xs.getD i 0) = false := decide_eq_false (by omega)
          rw [decide_eq_true hlt] at hrb
          simp (disch := omega) only [hz, e1, hg, go_sem]
          exact ih (i + 1) _ _ ⟨by omega, hnx hrb⟩ (by omega) (by simp (disch := omega) only [subT, Int.natCast_add, Int.cast_ofNat_Int, go_sem] <;> (repeat' apply And.intro) <;> first | rfl | (congr 1; omega) | assumption) rfl
        · have hg : decide (xs.getD (i - 1) 0 ≥ xs.getD i 0) = true := decide_eq_true (by omega)
          rw [decide_eq_false hlt] at hrb
          simp (disch := omega) only [hz, e1, hg, go_sem]
          exact W_retC c74_ok rfl (Conv.drop _ (le_upd hb2)) ⟨by rw [hno hrb]; rfl, rfl⟩
  · have hil : i = xs.length := by omega
    rw [hil] at hall
    simp (disch := omega) only [go_sem]
    exact W_retC c74_ok rfl (Conv.drop _ (le_upd hb2)) ⟨by rw [rising_true hall]; rfl, rfl⟩
theorem l06Rising_ok {ex : Bool} {xs : List Int} {r : Nat} (hl : r ≤ 1000000000000) (hx : xs.length ≤ 1000000000000) : Ret Tryz.prog Γ 56 [.isl ex 1 (ints xs), .int .i64 r] σ (.bool (risingB r xs)) σ := by
  refine ret_of c56_ok rfl ?_
  simp (disch := omega) only [c56, go_sem]
  refine W_loopC (α := Nat) (fun i => i ≤ xs.length ∧ ∀ j, j < i → riseB r xs j = true) (fun i => [(0, .isl ex 1 (ints xs)), (1, .int .i64 r), (5, .int .i64 (i : Nat))]) (fun _ => σ) (fun i => xs.length - i) 0 ⟨by omega, fun j hj => by omega⟩ (by simp (disch := omega) only [subT, Int.natCast_add, Int.cast_ofNat_Int, go_sem] <;> (repeat' apply And.intro) <;> first | rfl | (congr 1; omega) | assumption) rfl ?_
  rintro i ⟨hi, hall⟩ ih
  simp (disch := omega) only [go_sem]
  first | refine iteW_dec (fun hq => ?_) (fun hq => ?_) | refine iteW_of (fun hq => ?_) (fun hq => ?_)
  · have hno := rising_false (r := r) (xs := xs) (i := i) (by omega)
    have hnx := all_next (p := fun j => riseB r xs j) hall (i := i)
    have hrb : riseB r xs i = ((decide (0 ≤ xs.getD i 0) && decide (xs.getD i 0 ≤ (r : Int) - 1)) && (decide (i = 0) || decide (xs.getD (i - 1) 0 < xs.getD i 0))) := rfl
    simp (disch := omega) only [go_sem]
    refine W_drawW ?_
    simp (disch := omega) only [go_sem]
    refine DRun.callQ (l01In_ok (xs.getD i 0) 0 ((r : Int) - 1)) ⟨[], rfl, rfl⟩ ?_
    rintro rr s ⟨rfl, hs'⟩
    obtain rfl := hs'.symm
    generalize (decide (0 ≤ xs.getD i 0) && decide (xs.getD i 0 ≤ (r : Int) - 1)) = q at *
    cases q with
    | false =>
      simp (disch := omega) only [go_sem]
      exact W_retR c56_ok rfl ⟨by rw [hno hrb]; rfl, rfl⟩
    | true =>
      by_cases hi0 : i = 0
      · have hz : decide ((i : Int) > 0) = false := decide_eq_false (by omega)
        rw [decide_eq_true hi0] at hrb
        simp (disch := omega) only [hz, go_sem]
        exact ih (i + 1) _ _ ⟨by omega, hnx hrb⟩ (by omega) (by simp (disch := omega) only [subT, Int.natCast_add, Int.cast_ofNat_Int, go_sem] <;> (repeat' apply And.intro) <;> first | rfl | (congr 1; omega) | assumption) rfl
      · have hz : decide ((i : Int) > 0) = true := decide_eq_true (by omega)
        have e1 : ((i : Int) - 1).toNat = i - 1 := by omega
        rw [decide_eq_false hi0] at hrb
        by_cases hlt : xs.getD (i - 1) 0 < xs.getD i 0
        · have hg : decide (xs.getD (i - 1) 0 ≥ xs.getD i 0) = false := decide_eq_false (by omega)
          rw [decide_eq_true hlt] at hrb
          simp (disch := omega) only [hz, e1, hg, go_sem]
          exact ih (i + 1) _ _ ⟨by omega, hnx hrb⟩ (by omega) (by simp (disch := omega) only [subT, Int.natCast_add, Int.cast_ofNat_Int, go_sem] <;> (repeat' apply And.intro) <;> first | rfl | (congr 1; omega) | assumption) rfl
        · have hg : decide (xs.getD (i - 1) 0 ≥ xs.getD i 0) = true := decide_eq_true (by omega)
          rw [decide_eq_false hlt] at hrb
          simp (disch := omega) only [hz, e1, hg, go_sem]
          exact W_retR c56_ok rfl ⟨by rw [hno hrb]; rfl, rfl⟩
  · have hil : i = xs.length := by omega
    rw [hil] at hall
    simp (disch := omega) only [go_sem]
    exact W_retR c56_ok rfl ⟨by rw [rising_true hall]; rfl, rfl⟩
def inB (a b c : Int) : Bool := decide (b ≤ a) && decide (a ≤ c)
def impB (x : Imp) : Bool := inB x.when_ 0 2 && inB x.do_ 1 4 && inB x.n 0 (if x.do_ = 2 then 1000 else 0)
theorem isImport_ok {x : Imp} : Ret Tryz.prog Γ 71 [.agg (impC x)] σ (.bool (impB x)) σ := by
  refine ret_of c71_ok rfl ?_
  simp (disch := omega) only [c71, impC, go_sem]
  refine SRun.boxR (by simp [ev, look, V.cells, V.one]) ?_
  intro b1 hb1
  simp (disch := omega) only [go_sem]
  unfold impB
  by_cases h2 : x.do_ = 2
  · rw [if_pos h2]
    simp (disch := omega) only [go_sem]
    refine SRun.callR (within_ok x.when_ 0 2) ⟨[], rfl, rfl⟩ rfl ?_
    unfold inB
    generalize (decide (0 ≤ x.when_) && decide (x.when_ ≤ 2)) = q1
    cases q1 with
    | false => 
      simp (disch := omega) only [go_sem]
      exact W_retC c71_ok rfl (Conv.drop _ (le_upd hb1)) ⟨rfl, rfl⟩
    | true =>
      simp (disch := omega) only [go_sem]
      refine SRun.callR (within_ok x.do_ 1 4) ⟨[], rfl, rfl⟩ rfl ?_
      generalize (decide (1 ≤ x.do_) && decide (x.do_ ≤ 4)) = q2
      cases q2 with
      | false =>
        simp (disch := omega) only [go_sem]
        exact W_retC c71_ok rfl (Conv.drop _ (le_upd hb1)) ⟨rfl, rfl⟩
      | true =>
        simp (disch := omega) only [go_sem]
        refine SRun.callR (within_ok x.n 0 1000) ⟨[], rfl, rfl⟩ rfl ?_
        simp (disch := omega) only [go_sem]
        exact W_retC c71_ok rfl (Conv.drop _ (le_upd hb1)) ⟨rfl, rfl⟩
  · rw [if_neg h2]
    simp (disch := omega) only [go_sem]
    refine SRun.callR (within_ok x.when_ 0 2) ⟨[], rfl, rfl⟩ rfl ?_
    unfold inB
    generalize (decide (0 ≤ x.when_) && decide (x.when_ ≤ 2)) = q1
    cases q1 with
    | false => 
      simp (disch := omega) only [go_sem]
      exact W_retC c71_ok rfl (Conv.drop _ (le_upd hb1)) ⟨rfl, rfl⟩
    | true =>
      simp (disch := omega) only [go_sem]
      refine SRun.callR (within_ok x.do_ 1 4) ⟨[], rfl, rfl⟩ rfl ?_
      generalize (decide (1 ≤ x.do_) && decide (x.do_ ≤ 4)) = q2
      cases q2 with
      | false =>
        simp (disch := omega) only [go_sem]
        exact W_retC c71_ok rfl (Conv.drop _ (le_upd hb1)) ⟨rfl, rfl⟩
      | true =>
        simp (disch := omega) only [go_sem]
        refine SRun.callR (within_ok x.n 0 0) ⟨[], rfl, rfl⟩ rfl ?_
        simp (disch := omega) only [go_sem]
        exact W_retC c71_ok rfl (Conv.drop _ (le_upd hb1)) ⟨rfl, rfl⟩
end
section
attribute [local irreducible] SRun DS DRun
variable {Γ : St} {σ σ0 : St}
def nameAt (ss : List (List UInt8)) (i : Nat) : Bool := nameB (ss.getD i []) && !(ss.take i).contains (ss.getD i [])
def linkAt (r : Int) (ls : List Link) (i : Nat) : Bool :=
  routerB r (ls.getD i default).a && routerB r (ls.getD i default).b && !decide ((ls.getD i default).a = (ls.getD i default).b) && inB (ls.getD i default).cost 1 100 && !(ls.take i).any (joinB (ls.getD i default).a (ls.getD i default).b)
def impOn (ls : List Link) (x : Imp) : Bool := decide (0 ≤ linkP ls x.at_ x.from_) && impB x
def filOn (ls : List Link) (x : Fil) : Bool := decide (0 ≤ linkP ls x.at_ x.to) && inB x.low 0 x.high && decide (x.high ≤ 15)
/-- A network is right. -/
def netB (n : Net) : Bool :=
  decide (1 ≤ n.routers.length) && decide (n.routers.length ≤ 4) && decide (n.links.length ≤ 6) && decide (n.imports.length ≤ 12) && decide (n.filters.length ≤ 6) &&
    (List.range n.routers.length).all (nameAt n.routers) && (List.range n.links.length).all (linkAt n.routers.length n.links) && n.imports.all (impOn n.links) && n.filters.all (filOn n.links) &&
    risingB n.routers.length n.origins && risingB n.routers.length n.externals && decide (n.externals.length ≤ 2)
/-- How long things are that come in. -/
structure NetLen (n : Net) : Prop where
  routers : n.routers.length ≤ 1000000000000
  names : ∀ s ∈ n.routers, s.length ≤ 1000000000000
  links : n.links.length ≤ 1000000000000
  origins : n.origins.length ≤ 1000000000000
  externals : n.externals.length ≤ 1000000000000
  imports : n.imports.length ≤ 1000000000000
  filters : n.filters.length ≤ 1000000000000
theorem range_all {p : Nat → Bool} {m : Nat} (h : ∀ j, j < m → p j = true) : (List.range m).all p = true := by
  rw [List.all_eq_true]; intro i hi; exact h i (List.mem_range.1 hi)
theorem range_not {p : Nat → Bool} {m i : Nat} (hi : i < m) (h : p i = false) : (List.range m).all p = false := by
  rw [List.all_eq_false]; exact ⟨i, List.mem_range.2 hi, by rw [h]; simp⟩
theorem all_not_any {α : Type} {p q : α → Bool} {xs : List α} (h : ∀ x, q x = !p x) : xs.all p = !xs.any q := by
  induction xs with
  | nil => rfl
  | cons a r ih => rw [List.all_cons, List.any_cons, ih, h a]; cases p a <;> simp
theorem isNet1_ok {n : Net} {x : Imp} {b : Nat} (hn : NetLen n) (hb : σ b = some (netC n)) : Ret Tryz.prog Γ 70 [.agg (impC x), .ptr b 0] σ (.bool (!impOn n.links x)) σ := by
  have hlen : (netC n).take 6 = netC n := rfl
  have hlen2 : (netC n).length = 6 := rfl
  have hfi := first_in (joinB x.at_ x.from_) n.links
  refine ret_of c70_ok rfl ?_
  simp (disch := omega) only [c70, impC, go_sem]
  refine SRun.boxR (by simp [ev, look, V.cells, V.one]) ?_
  intro b2 hb2
  have nb : b ≠ b2 := fun e => by subst e; rw [hb] at hb2; cases hb2
  simp (disch := omega) only [hb, nb, hlen, hlen2, go_sem]
  refine SRun.callR (linkOf_ok (n := n) (x := x.at_) (y := x.from_) hn.links) ⟨[], rfl, rfl⟩ rfl ?_
  have hfi' : -1 ≤ linkP n.links x.at_ x.from_ := hfi.1
  unfold impOn
  by_cases h0 : linkP n.links x.at_ x.from_ < 0
  · have hd : decide (0 ≤ linkP n.links x.at_ x.from_) = false := decide_eq_false (by omega)
    rw [hd]
    simp (disch := omega) only [go_sem]
    exact W_retC c70_ok rfl (Conv.drop _ (le_upd hb2)) ⟨by simp [look]; try omega, rfl⟩
  · have hd : decide (0 ≤ linkP n.links x.at_ x.from_) = true := decide_eq_true (by omega)
    have hd2 : decide (linkP n.links x.at_ x.from_ < 0) = false := decide_eq_false h0
    rw [hd]
    simp (disch := omega) only [hd2, go_sem]
    refine SRun.callR (isImport_ok (x := x)) ⟨[], rfl, rfl⟩ rfl ?_
    simp (disch := omega) only [go_sem]
    exact W_retC c70_ok rfl (Conv.drop _ (le_upd hb2)) ⟨by simp [look], rfl⟩
theorem isNet2_ok {n : Net} {x : Fil} {b : Nat} (hn : NetLen n) (hb : σ b = some (netC n)) : Ret Tryz.prog Γ 73 [.agg (filC x), .ptr b 0] σ (.bool (!filOn n.links x)) σ := by
  have hlen : (netC n).take 6 = netC n := rfl
  have hlen2 : (netC n).length = 6 := rfl
  have hfi := first_in (joinB x.at_ x.to) n.links
  refine ret_of c73_ok rfl ?_
  simp (disch := omega) only [c73, filC, go_sem]
  refine SRun.boxR (by simp [ev, look, V.cells, V.one]) ?_
  intro b2 hb2
  have nb : b ≠ b2 := fun e => by subst e; rw [hb] at hb2; cases hb2
  simp (disch := omega) only [hb, nb, hlen, hlen2, go_sem]
  refine SRun.callR (linkOf_ok (n := n) (x := x.at_) (y := x.to) hn.links) ⟨[], rfl, rfl⟩ rfl ?_
  have hfi' : -1 ≤ linkP n.links x.at_ x.to := hfi.1
  unfold filOn
  by_cases h0 : linkP n.links x.at_ x.to < 0
  · have hd : decide (0 ≤ linkP n.links x.at_ x.to) = false := decide_eq_false (by omega)
    have hd2 : decide (linkP n.links x.at_ x.to < 0) = true := decide_eq_true h0
    rw [hd]
    simp (disch := omega) only [hd2, go_sem]
    exact W_retC c73_ok rfl (Conv.drop _ (le_upd hb2)) ⟨rfl, rfl⟩
  · have hd : decide (0 ≤ linkP n.links x.at_ x.to) = true := decide_eq_true (by omega)
    have hd2 : decide (linkP n.links x.at_ x.to < 0) = false := decide_eq_false h0
    rw [hd]
    simp (disch := omega) only [hd2, go_sem]
    refine SRun.callR (within_ok x.low 0 x.high) ⟨[], rfl, rfl⟩ rfl ?_
    unfold inB
    generalize (decide (0 ≤ x.low) && decide (x.low ≤ x.high)) = q
    cases q with
    | false =>
      simp (disch := omega) only [go_sem]
      exact W_retC c73_ok rfl (Conv.drop _ (le_upd hb2)) ⟨rfl, rfl⟩
    | true =>
      simp (disch := omega) only [go_sem]
      refine W_retC c73_ok rfl (Conv.drop _ (le_upd hb2)) ⟨?_, rfl⟩
      by_cases h15 : x.high ≤ 15
      · simp [look, h15]
      · simp [look, h15]; omega
set_option maxHeartbeats 2000000 in
theorem isNet_ok {n : Net} (hn : NetLen n) : Ret Tryz.prog Γ 35 [netV n] σ (.bool (netB n)) σ := by
  have hlen : (netC n).take 6 = netC n := rfl
  have hlen2 : (netC n).length = 6 := rfl
  have l1 := hn.routers
  have l2 := hn.links
  have l3 := hn.imports
  have l4 := hn.filters
  have l5 := hn.origins
  have l6 := hn.externals
  refine ret_of c35_ok rfl ?_
  simp (disch := omega) only [c35, netV, go_sem]
  refine SRun.boxR (net_one n) ?_
  intro b1 hb1
  have g1 := upd_same σ b1 (netC n)
  have hσ : ∀ d x, σ d = some x → upd σ b1 (netC n) d = some x := le_upd hb1
  have hne : netC n = [.isl false 1 (strsV n.routers), .isl false 3 (linksV n.links), .isl false 1 (ints n.origins), .isl false 1 (ints n.externals), .isl false 5 (impsV n.imports), .isl false 4 (filsV n.filters)] := rfl
  simp (disch := omega) only [go_sem]
  generalize upd σ b1 (netC n) = s1 at *
  simp (disch := omega) only [hne, go_sem]
  refine SRun.callR (within_ok n.routers.length 1 4) ⟨[], rfl, rfl⟩ rfl ?_
  by_cases r1 : 1 ≤ n.routers.length ∧ n.routers.length ≤ 4
  case' neg =>
    have hb : (decide ((1 : Int) ≤ n.routers.length) && decide ((n.routers.length : Int) ≤ 4)) = false := by simp; omega
    have hf : netB n = false := by
      have : (decide (1 ≤ n.routers.length) && decide (n.routers.length ≤ 4)) = false := by simp; omega
      unfold netB; rw [this]; simp
    simp (disch := omega) only [hb, go_sem]
    exact W_retC c35_ok rfl (Conv.drop _ hσ) ⟨by rw [hf]; rfl, rfl⟩
  have hb : (decide ((1 : Int) ≤ n.routers.length) && decide ((n.routers.length : Int) ≤ 4)) = true := by simp; omega
  by_cases r2 : n.links.length ≤ 6
  case' neg =>
    have hf : netB n = false := by simp [netB, r2]
    have hd : decide ((n.links.length : Int) > 6) = true := decide_eq_true (by omega)
    simp (disch := omega) only [hb, g1, hne, hd, go_sem]
    exact W_retC c35_ok rfl (Conv.drop _ hσ) ⟨by rw [hf]; rfl, rfl⟩
  have hd2 : decide ((n.links.length : Int) > 6) = false := decide_eq_false (by omega)
  by_cases r3 : n.imports.length ≤ 12
  case' neg =>
    have hf : netB n = false := by simp [netB, r3]
    have hd : decide ((n.imports.length : Int) > 12) = true := decide_eq_true (by omega)
    simp (disch := omega) only [hb, g1, hne, hd, hd2, go_sem]
    exact W_retC c35_ok rfl (Conv.drop _ hσ) ⟨by rw [hf]; rfl, rfl⟩
  have hd3 : decide ((n.imports.length : Int) > 12) = false := decide_eq_false (by omega)
  by_cases r4 : n.filters.length ≤ 6
  case' neg =>
    have hf : netB n = false := by simp [netB, r4]
    have hd : decide ((n.filters.length : Int) > 6) = true := decide_eq_true (by omega)
    simp (disch := omega) only [hb, g1, hne, hd, hd2, hd3, go_sem]
    exact W_retC c35_ok rfl (Conv.drop _ hσ) ⟨by rw [hf]; rfl, rfl⟩
  have hd4 : decide ((n.filters.length : Int) > 6) = false := decide_eq_false (by omega)
  simp (disch := omega) only [hb, g1, hne, hd2, hd3, hd4, go_sem]
  refine W_loopC (α := Nat) (fun i => i ≤ n.routers.length ∧ ∀ j, j < i → nameAt n.routers j = true) (fun i => [(1, .ptr b1 0), (31, .isl false 1 (strsV n.routers)), (32, .int .i64 n.routers.length), (33, .int .i64 (i : Nat))]) (fun _ => s1) (fun i => n.routers.length - i) 0 ⟨by omega, fun j hj => by omega⟩ (by simp (disch := omega) only [subT, Int.natCast_add, Int.cast_ofNat_Int, go_sem] <;> (repeat' apply And.intro) <;> first | rfl | (congr 1; omega) | assumption) rfl ?_
  rintro i ⟨hi, hall⟩ ih
  simp (disch := omega) only [go_sem]
  first | refine iteW_dec (fun hq => ?_) (fun hq => ?_) | refine iteW_of (fun hq => ?_) (fun hq => ?_)
  · have hno : nameAt n.routers i = false → netB n = false := fun h => by
      have := range_not (m := n.routers.length) (p := nameAt n.routers) (i := i) (by omega) h
      unfold netB; rw [this]; simp
    have hnx := all_next (p := fun j => nameAt n.routers j) hall (i := i)
    have hm := hn.names _ (getD_mem [] (by omega : i < n.routers.length))
    have hdef : nameAt n.routers i = (nameB (n.routers.getD i []) && !(n.routers.take i).contains (n.routers.getD i [])) := rfl
    simp (disch := omega) only [go_sem]
    refine SRun.callR (NameOK_ok hm) ⟨[], rfl, rfl⟩ rfl ?_
    generalize hgn : n.routers.getD i [] = nm at *
    generalize nameB nm = q1 at *
    cases q1 with
    | false =>
      simp (disch := omega) only [go_sem]
      exact W_retC c35_ok rfl (Conv.drop _ hσ) ⟨by rw [hno hdef]; rfl, rfl⟩
    | true =>
      have hti : List.take ((i : Int) - 0).toNat (strsV n.routers) = strsV (n.routers.take i) := by rw [show ((i : Int) - 0).toNat = i by omega, strsV_take]
      simp (disch := omega) only [g1, hne, go_sem]
      refine SRun.callR (containsStr_ok (ex := false) (ss := n.routers.take i) (w := nm) (by rw [List.length_take]; omega)) ⟨[], rfl, by rw [← hti]; rfl⟩ rfl ?_
      generalize (n.routers.take i).contains nm = q2 at *
      cases q2 with
      | true =>
        simp (disch := omega) only [go_sem]
        exact W_retC c35_ok rfl (Conv.drop _ hσ) ⟨by rw [hno hdef]; rfl, rfl⟩
      | false =>
        simp (disch := omega) only [go_sem]
        exact ih (i + 1) _ _ ⟨by omega, hnx hdef⟩ (by omega) (by simp (disch := omega) only [subT, Int.natCast_add, Int.cast_ofNat_Int, go_sem] <;> (repeat' apply And.intro) <;> first | rfl | (congr 1; omega) | assumption) rfl
  · have hir : i = n.routers.length := by omega
    rw [hir] at hall
    have hnames := range_all hall
    clear ih hq
    simp (disch := omega) only [g1, hne, go_sem]
    refine W_loopC (α := Nat × St) (fun p => p.1 ≤ n.links.length ∧ (∀ j, j < p.1 → linkAt n.routers.length n.links j = true) ∧ ∀ d x, s1 d = some x → p.2 d = some x) (fun p => [(1, .ptr b1 0), (51, .isl false 3 (linksV n.links)), (52, .int .i64 n.links.length), (53, .int .i64 (p.1 : Nat))]) (fun p => p.2) (fun p => n.links.length - p.1) (0, s1) ⟨by omega, fun j hj => by simp only at hj; omega, fun _ _ h => h⟩ (by simp (disch := omega) only [subT, Int.natCast_add, Int.cast_ofNat_Int, go_sem] <;> (repeat' apply And.intro) <;> first | rfl | (congr 1; omega) | assumption) rfl ?_
    rintro ⟨k, s2⟩ ⟨hk, hallk, hle2⟩ ih2
    dsimp only at hk hallk hle2
    have hσ2 : ∀ d x, σ d = some x → s2 d = some x := fun d x h => hle2 _ _ (hσ d x h)
    have g1' := hle2 _ _ g1
    simp (disch := omega) only [go_sem]
    first | refine iteW_dec (fun hq2 => ?_) (fun hq2 => ?_) | refine iteW_of (fun hq2 => ?_) (fun hq2 => ?_)
    · have hno : linkAt n.routers.length n.links k = false → netB n = false := fun h => by
        have := range_not (m := n.links.length) (p := linkAt n.routers.length n.links) (i := k) (by omega) h
        unfold netB; rw [this]; simp
      have hnx := all_next (p := fun j => linkAt n.routers.length n.links j) hallk (i := k)
      have hdef : linkAt n.routers.length n.links k = (routerB n.routers.length (n.links.getD k default).a && routerB n.routers.length (n.links.getD k default).b && !decide ((n.links.getD k default).a = (n.links.getD k default).b) && inB (n.links.getD k default).cost 1 100 && !(n.links.take k).any (joinB (n.links.getD k default).a (n.links.getD k default).b)) := rfl
      have hbf : decide (linkP n.links (n.links.getD k default).a (n.links.getD k default).b < (k : Nat)) = (n.links.take k).any (joinB (n.links.getD k default).a (n.links.getD k default).b) := first_before (by omega) (by simp [joinB])
      simp (disch := omega) only [go_sem]
      generalize n.links.getD k default = l at *
      generalize (n.links.take k).any (joinB l.a l.b) = q5 at *
      refine SRun.allocR ?_
      intro b6 hb6
      have n61 : b6 ≠ b1 := fun e => by subst e; rw [g1'] at hb6; cases hb6
      have g1'' : ∀ z, upd s2 b6 z b1 = some (netC n) := fun z => by rw [upd_ne _ _ n61.symm]; exact g1'
      have hσ3 : ∀ z, ∀ d x, σ d = some x → upd s2 b6 z d = some x := fun z d x h => le_upd hb6 _ _ (hσ2 d x h)
      have hlc : linkC l = [.int .i64 l.a, .int .i64 l.b, .int .i64 l.cost] := rfl
      simp (disch := omega) only [hlc, g1'', hlen, hlen2, go_sem]
      refine SRun.callR (isRouter_ok (n := n) (x := l.a) l1) ⟨[], rfl, rfl⟩ rfl ?_
      generalize routerB n.routers.length l.a = q1 at *
      cases q1 with
      | false =>
        simp (disch := omega) only [go_sem]
        exact W_retC c35_ok rfl (Conv.drop _ (hσ3 _)) ⟨by rw [hno hdef]; rfl, rfl⟩
      | true =>
        simp (disch := omega) only [hlc, g1'', hlen, hlen2, go_sem]
        refine SRun.callR (isRouter_ok (n := n) (x := l.b) l1) ⟨[], rfl, rfl⟩ rfl ?_
        generalize routerB n.routers.length l.b = q2 at *
        cases q2 with
        | false =>
          simp (disch := omega) only [go_sem]
          exact W_retC c35_ok rfl (Conv.drop _ (hσ3 _)) ⟨by rw [hno hdef]; rfl, rfl⟩
        | true =>
          by_cases hab : l.a = l.b
          · have hd : decide (l.a = l.b) = true := decide_eq_true hab
            rw [hd] at hdef
            simp (disch := omega) only [hd, go_sem]
            exact W_retC c35_ok rfl (Conv.drop _ (hσ3 _)) ⟨by rw [hno (by rw [hdef]; simp)]; rfl, rfl⟩
          · have hd : decide (l.a = l.b) = false := decide_eq_false hab
            rw [hd] at hdef
            simp (disch := omega) only [hd, hlc, g1'', hlen, hlen2, go_sem]
            refine SRun.callR (linkOf_ok (n := n) (x := l.a) (y := l.b) l2) ⟨[], rfl, rfl⟩ rfl ?_
            cases q5 with
            | true =>
              simp (disch := omega) only [hbf, go_sem]
              exact W_retC c35_ok rfl (Conv.drop _ (hσ3 _)) ⟨by rw [hno (by rw [hdef]; simp)]; rfl, rfl⟩
            | false =>
              simp (disch := omega) only [hbf, go_sem]
              refine SRun.callR (within_ok l.cost 1 100) ⟨[], rfl, rfl⟩ rfl ?_
              unfold inB at hdef
              generalize (decide (1 ≤ l.cost) && decide (l.cost ≤ 100)) = q4 at *
              cases q4 with
              | false =>
                simp (disch := omega) only [go_sem]
                exact W_retC c35_ok rfl (Conv.drop _ (hσ3 _)) ⟨by rw [hno (by rw [hdef]; simp)]; rfl, rfl⟩
              | true =>
                simp (disch := omega) only [go_sem]
                exact ih2 (k + 1, _) _ _ ⟨by simp only; omega, hnx (by rw [hdef]; rfl), fun d x h => le_upd hb6 _ _ (hle2 _ _ h)⟩ (by simp only; omega) (by simp (disch := omega) only [subT, Int.natCast_add, Int.cast_ofNat_Int, go_sem] <;> (repeat' apply And.intro) <;> first | rfl | (congr 1; omega) | assumption) rfl
    · have hkr : k = n.links.length := by omega
      rw [hkr] at hallk
      have hlinks := range_all hallk
      clear ih2 hq2
      simp (disch := omega) only [g1', hne, go_sem]
      refine SRun.callR (containsIm_ok (ex := false) (xs := n.imports) (F := 70) (caps := [.ptr b1 0]) (p := fun x => !impOn n.links x) l3 fun x _ => isNet1_ok hn g1') ⟨[], rfl, rfl⟩ rfl ?_
      have himp := all_not_any (xs := n.imports) (p := impOn n.links) (q := fun x => !impOn n.links x) (fun x => rfl)
      generalize n.imports.any (fun x => !impOn n.links x) = qi at *
      cases qi with
      | true =>
        have hf : netB n = false := by unfold netB; rw [himp]; simp
        simp (disch := omega) only [go_sem]
        exact W_retC c35_ok rfl (Conv.drop _ hσ2) ⟨by rw [hf]; rfl, rfl⟩
      | false =>
        simp (disch := omega) only [g1', hne, go_sem]
        refine SRun.callR (containsFi_ok (ex := false) (xs := n.filters) (F := 73) (caps := [.ptr b1 0]) (p := fun x => !filOn n.links x) l4 fun x _ => isNet2_ok hn g1') ⟨[], rfl, rfl⟩ rfl ?_
        have hfil := all_not_any (xs := n.filters) (p := filOn n.links) (q := fun x => !filOn n.links x) (fun x => rfl)
        generalize n.filters.any (fun x => !filOn n.links x) = qf at *
        cases qf with
        | true =>
          have hf : netB n = false := by unfold netB; rw [hfil]; simp
          simp (disch := omega) only [go_sem]
          exact W_retC c35_ok rfl (Conv.drop _ hσ2) ⟨by rw [hf]; rfl, rfl⟩
        | false =>
          have hB : netB n = (risingB n.routers.length n.origins && risingB n.routers.length n.externals && decide (n.externals.length ≤ 2)) := by
            unfold netB
            rw [hnames, hlinks, himp, hfil, decide_eq_true r1.1, decide_eq_true r1.2, decide_eq_true r2, decide_eq_true r3, decide_eq_true r4]
            simp
          rw [hB]
          have e2 : (netC n)[2]? = some (.isl false 1 (ints n.origins)) := rfl
          have e3 : (netC n)[3]? = some (.isl false 1 (ints n.externals)) := rfl
          simp (disch := omega) only [g1', hlen, hlen2, e2, e3, go_sem]
          refine SRun.callR (areRouters_ok (n := n) (ex := false) (xs := n.origins) l1 l5) ⟨[], rfl, rfl⟩ rfl ?_
          generalize risingB n.routers.length n.origins = q6
          cases q6 with
          | false =>
            simp (disch := omega) only [go_sem]
            exact W_retC c35_ok rfl (Conv.drop _ hσ2) ⟨rfl, rfl⟩
          | true =>
            simp (disch := omega) only [g1', hlen, hlen2, e2, e3, go_sem]
            refine SRun.callR (areRouters_ok (n := n) (ex := false) (xs := n.externals) l1 l6) ⟨[], rfl, rfl⟩ rfl ?_
            generalize risingB n.routers.length n.externals = q7
            cases q7 with
            | false =>
              simp (disch := omega) only [go_sem]
              exact W_retC c35_ok rfl (Conv.drop _ hσ2) ⟨rfl, rfl⟩
            | true =>
              simp (disch := omega) only [g1', hlen, hlen2, e2, e3, go_sem]
              refine W_retC c35_ok rfl (Conv.drop _ hσ2) ⟨?_, rfl⟩
              simp only [look, ev, V.bool.injEq, V.int.injEq, V.str.injEq, V.tup.injEq, V.agg.injEq, V.isl.injEq, List.cons.injEq, true_and, and_true, Bool.true_and, Nat.reduceEqDiff, Nat.reduceAdd, Nat.reduceSub, Nat.reduceMul, Nat.reducePow, Nat.reduceDiv, Nat.reduceMod, Int.reduceToNat, Nat.reduceLeDiff, Nat.reduceLT, Int.reduceEq, Int.reduceLT, Int.reduceLE, Int.reduceGT, Int.reduceGE, Int.reduceNeg, Int.reduceSub, Int.reduceAdd, Int.reduceMul, Int.reducePow, ne_eq, reduceCtorEq, ↓reduceIte]
              exact decide_eq_decide.2 (by omega)
end
section
attribute [local irreducible] SRun DS DRun
variable {Γ : St} {σ σ0 : St}
theorem all_takeD {α : Type} [Inhabited α] {p : α → Bool} {xs : List α} {i : Nat} (hi : i < xs.length) (h : (xs.take i).all p = true) (hp : p (xs.getD i default) = true) : (xs.take (i + 1)).all p = true := by
  rw [take_succ default hi, List.all_append, h, List.all_cons, hp]; rfl
theorem all_falseD {α : Type} [Inhabited α] {p : α → Bool} {xs : List α} {i : Nat} (hi : i < xs.length) (hp : p (xs.getD i default) = false) : xs.all p = false := by
  rw [List.all_eq_false]; exact ⟨_, getD_mem default hi, by rw [hp]; simp⟩
theorem fil_eq (ls : List Link) (x : Fil) : filOn ls x = (decide (0 ≤ linkP ls x.at_ x.to) && (decide (0 ≤ x.low) && decide (x.low ≤ 15)) && (decide (x.low ≤ x.high) && decide (x.high ≤ 15))) := by
  unfold filOn inB
  rw [Bool.eq_iff_iff]
  simp only [Bool.and_eq_true, decide_eq_true_eq]
  omega
set_option maxHeartbeats 4000000 in
theorem NetOK_ok {n : Net} (hn : NetLen n) : Ret Tryz.prog Γ 27 [netV n] σ (.bool (netB n)) σ := by
  have hlen : (netC n).take 6 = netC n := rfl
  have hlen2 : (netC n).length = 6 := rfl
  have l1 := hn.routers
  have l2 := hn.links
  have l3 := hn.imports
  have l4 := hn.filters
  have l5 := hn.origins
  have l6 := hn.externals
  have e0 : (netC n)[0]? = some (.isl false 1 (strsV n.routers)) := rfl
  have e1 : (netC n)[1]? = some (.isl false 3 (linksV n.links)) := rfl
  have e2 : (netC n)[2]? = some (.isl false 1 (ints n.origins)) := rfl
  have e3 : (netC n)[3]? = some (.isl false 1 (ints n.externals)) := rfl
  have e4 : (netC n)[4]? = some (.isl false 5 (impsV n.imports)) := rfl
  have e5 : (netC n)[5]? = some (.isl false 4 (filsV n.filters)) := rfl
  refine ret_of c27_ok rfl ?_
  simp (disch := omega) only [c27, netV, go_sem]
  refine SRun.boxR (net_one n) ?_
  intro b1 hb1
  have g1 := upd_same σ b1 (netC n)
  have hσ : ∀ d x, σ d = some x → upd σ b1 (netC n) d = some x := le_upd hb1
  simp (disch := omega) only [go_sem]
  generalize upd σ b1 (netC n) = s1 at *
  simp (disch := omega) only [e0, go_sem]
  refine SRun.callR (l01In_ok n.routers.length 1 4) ⟨[], rfl, rfl⟩ rfl ?_
  by_cases r1 : 1 ≤ n.routers.length ∧ n.routers.length ≤ 4
  case' neg =>
    have hb : (decide ((1 : Int) ≤ n.routers.length) && decide ((n.routers.length : Int) ≤ 4)) = false := by simp; omega
    have hf : netB n = false := by
      have : (decide (1 ≤ n.routers.length) && decide (n.routers.length ≤ 4)) = false := by simp; omega
      unfold netB; rw [this]; simp
    simp (disch := omega) only [hb, go_sem]
    exact W_retC c27_ok rfl (Conv.drop _ hσ) ⟨by rw [hf]; rfl, rfl⟩
  have hb : (decide ((1 : Int) ≤ n.routers.length) && decide ((n.routers.length : Int) ≤ 4)) = true := by simp; omega
  by_cases r2 : n.links.length ≤ 6
  case' neg =>
    have hf : netB n = false := by simp [netB, r2]
    have hd : decide ((n.links.length : Int) > 6) = true := decide_eq_true (by omega)
    simp (disch := omega) only [hb, g1, e1, hd, go_sem]
    exact W_retC c27_ok rfl (Conv.drop _ hσ) ⟨by rw [hf]; rfl, rfl⟩
  have hd2 : decide ((n.links.length : Int) > 6) = false := decide_eq_false (by omega)
  by_cases r3 : n.imports.length ≤ 12
  case' neg =>
    have hf : netB n = false := by simp [netB, r3]
    have hd : decide ((n.imports.length : Int) > 12) = true := decide_eq_true (by omega)
    simp (disch := omega) only [hb, g1, e1, e4, hd, hd2, go_sem]
    exact W_retC c27_ok rfl (Conv.drop _ hσ) ⟨by rw [hf]; rfl, rfl⟩
  have hd3 : decide ((n.imports.length : Int) > 12) = false := decide_eq_false (by omega)
  by_cases r4 : n.filters.length ≤ 6
  case' neg =>
    have hf : netB n = false := by simp [netB, r4]
    have hd : decide ((n.filters.length : Int) > 6) = true := decide_eq_true (by omega)
    simp (disch := omega) only [hb, g1, e1, e4, e5, hd, hd2, hd3, go_sem]
    exact W_retC c27_ok rfl (Conv.drop _ hσ) ⟨by rw [hf]; rfl, rfl⟩
  have hd4 : decide ((n.filters.length : Int) > 6) = false := decide_eq_false (by omega)
  simp (disch := omega) only [hb, g1, e1, e4, e5, e2, hd2, hd3, hd4, go_sem]
  refine SRun.callR (l06Rising_ok (ex := false) (xs := n.origins) (r := n.routers.length) l1 l5) ⟨[], rfl, rfl⟩ rfl ?_
  cases r5 : risingB n.routers.length n.origins
  case' false =>
    have hf : netB n = false := by unfold netB; rw [r5]; simp
    simp (disch := omega) only [go_sem]
    exact W_retC c27_ok rfl (Conv.drop _ hσ) ⟨by rw [hf]; rfl, rfl⟩
  simp (disch := omega) only [g1, e3, go_sem]
  refine SRun.callR (l06Rising_ok (ex := false) (xs := n.externals) (r := n.routers.length) l1 l6) ⟨[], rfl, rfl⟩ rfl ?_
  cases r6 : risingB n.routers.length n.externals
  case' false =>
    have hf : netB n = false := by unfold netB; rw [r6]; simp
    simp (disch := omega) only [go_sem]
    exact W_retC c27_ok rfl (Conv.drop _ hσ) ⟨by rw [hf]; rfl, rfl⟩
  by_cases r7 : n.externals.length ≤ 2
  case' neg =>
    have hf : netB n = false := by simp [netB, r7]
    have hd : decide ((n.externals.length : Int) > 2) = true := decide_eq_true (by omega)
    simp (disch := omega) only [g1, e3, hd, go_sem]
    exact W_retC c27_ok rfl (Conv.drop _ hσ) ⟨by rw [hf]; rfl, rfl⟩
  have hd7 : decide ((n.externals.length : Int) > 2) = false := decide_eq_false (by omega)
  simp (disch := omega) only [g1, e3, hd7, go_sem]
  refine W_loopC (α := Nat) (fun i => i ≤ n.routers.length ∧ ∀ j, j < i → nameAt n.routers j = true) (fun i => [(1, .ptr b1 0), (3, .int .i64 n.routers.length), (4, .int .i64 (i : Nat))]) (fun _ => s1) (fun i => n.routers.length - i) 0 ⟨by omega, fun j hj => by omega⟩ (by simp (disch := omega) only [subT, Int.natCast_add, Int.cast_ofNat_Int, go_sem] <;> (repeat' apply And.intro) <;> first | rfl | (congr 1; omega) | assumption) rfl ?_
  rintro i ⟨hi, hall⟩ ih
  simp (disch := omega) only [go_sem]
  first | refine iteW_dec (fun hq => ?_) (fun hq => ?_) | refine iteW_of (fun hq => ?_) (fun hq => ?_)
  · have hno : nameAt n.routers i = false → netB n = false := fun h => by
      have := range_not (m := n.routers.length) (p := nameAt n.routers) (i := i) (by omega) h
      unfold netB; rw [this]; simp
    have hnx := all_next (p := fun j => nameAt n.routers j) hall (i := i)
    have hm := hn.names _ (getD_mem [] (by omega : i < n.routers.length))
    have hdef : nameAt n.routers i = (nameB (n.routers.getD i []) && !(n.routers.take i).contains (n.routers.getD i [])) := rfl
    simp (disch := omega) only [go_sem]
    refine W_drawW ?_
    simp (disch := omega) only [g1, e0, go_sem]
    generalize hgn : n.routers.getD i [] = nm at *
    refine DRun.callQ (NameOKs_ok hm) ⟨[], rfl, rfl⟩ ?_
    rintro r s ⟨rfl, hs⟩
    obtain rfl := hs.symm
    generalize nameB nm = q1 at *
    cases q1 with
    | false =>
      simp (disch := omega) only [go_sem]
      refine DRun.skipG rfl ?_
      simp (disch := omega) only [go_sem]
      exact W_retC c27_ok rfl (Conv.drop _ hσ) ⟨by rw [hno hdef]; rfl, rfl⟩
    | true =>
      have hti : List.take ((i : Int) - 0).toNat (strsV n.routers) = strsV (n.routers.take i) := by rw [show ((i : Int) - 0).toNat = i by omega, strsV_take]
      simp (disch := omega) only [g1, e0, hgn, go_sem]
      refine DRun.callG (l06Place_ok (ex := false) (ss := n.routers.take i) (w := nm) (by rw [List.length_take]; omega)) ⟨[], rfl, by rw [← hti]; rfl⟩ rfl ?_
      rintro r s ⟨rfl, hs⟩
      obtain rfl := hs.symm
      have hpg := place_ge (n.routers.take i) nm
      generalize (n.routers.take i).contains nm = q2 at *
      cases q2 with
      | true =>
        simp (disch := omega) only [hpg, go_sem]
        exact W_retC c27_ok rfl (Conv.drop _ hσ) ⟨by rw [hno hdef]; rfl, rfl⟩
      | false =>
        simp (disch := omega) only [hpg, go_sem]
        exact ih (i + 1) _ _ ⟨by omega, hnx hdef⟩ (by omega) (by simp (disch := omega) only [subT, Int.natCast_add, Int.cast_ofNat_Int, go_sem] <;> (repeat' apply And.intro) <;> first | rfl | (congr 1; omega) | assumption) rfl
  · have hir : i = n.routers.length := by omega
    rw [hir] at hall
    have hnames := range_all hall
    clear ih hq
    simp (disch := omega) only [go_sem]
    refine W_loopC (α := Nat × St) (fun p => p.1 ≤ n.links.length ∧ (∀ j, j < p.1 → linkAt n.routers.length n.links j = true) ∧ ∀ d x, s1 d = some x → p.2 d = some x) (fun p => [(1, .ptr b1 0), (3, .int .i64 n.routers.length), (5, .int .i64 (p.1 : Nat))]) (fun p => p.2) (fun p => n.links.length - p.1) (0, s1) ⟨by omega, fun j hj => by simp only at hj; omega, fun _ _ h => h⟩ (by simp (disch := omega) only [subT, Int.natCast_add, Int.cast_ofNat_Int, go_sem] <;> (repeat' apply And.intro) <;> first | rfl | (congr 1; omega) | assumption) rfl ?_
    rintro ⟨k, s2⟩ ⟨hk, hallk, hle2⟩ ih2
    dsimp only at hk hallk hle2
    have hσ2 : ∀ d x, σ d = some x → s2 d = some x := fun d x h => hle2 _ _ (hσ d x h)
    have g1' := hle2 _ _ g1
    simp (disch := omega) only [g1', e1, go_sem]
    first | refine iteW_dec (fun hq2 => ?_) (fun hq2 => ?_) | refine iteW_of (fun hq2 => ?_) (fun hq2 => ?_)
    · have hno : linkAt n.routers.length n.links k = false → netB n = false := fun h => by
        have := range_not (m := n.links.length) (p := linkAt n.routers.length n.links) (i := k) (by omega) h
        unfold netB; rw [this]; simp
      have hnx := all_next (p := fun j => linkAt n.routers.length n.links j) hallk (i := k)
      have hdef : linkAt n.routers.length n.links k = ((decide (0 ≤ (n.links.getD k default).a) && decide ((n.links.getD k default).a ≤ (n.routers.length : Int) - 1)) && (decide (0 ≤ (n.links.getD k default).b) && decide ((n.links.getD k default).b ≤ (n.routers.length : Int) - 1)) && !decide ((n.links.getD k default).a = (n.links.getD k default).b) && (decide (1 ≤ (n.links.getD k default).cost) && decide ((n.links.getD k default).cost ≤ 100)) && !(n.links.take k).any (joinB (n.links.getD k default).a (n.links.getD k default).b)) := rfl
      have hfa : decide (linkP (n.links.take k) (n.links.getD k default).a (n.links.getD k default).b ≥ 0) = (n.links.take k).any (joinB (n.links.getD k default).a (n.links.getD k default).b) := first_any
      have hti : List.take ((k : Int) - 0).toNat (linksV n.links) = linksV (n.links.take k) := by rw [show ((k : Int) - 0).toNat = k by omega, linksV_take]
      simp (disch := omega) only [g1', e1, go_sem]
      generalize n.links.getD k default = l at *
      generalize (n.links.take k).any (joinB l.a l.b) = q5 at *
      refine SRun.allocR ?_
      intro b6 hb6
      have n61 : b6 ≠ b1 := fun e => by subst e; rw [g1'] at hb6; cases hb6
      have g1'' : ∀ z, upd s2 b6 z b1 = some (netC n) := fun z => by rw [upd_ne _ _ n61.symm]; exact g1'
      have hσ3 : ∀ z, ∀ d x, σ d = some x → upd s2 b6 z d = some x := fun z d x h => le_upd hb6 _ _ (hσ2 d x h)
      have hlc : linkC l = [.int .i64 l.a, .int .i64 l.b, .int .i64 l.cost] := rfl
      simp (disch := omega) only [hlc, go_sem]
      refine W_drawW ?_
      simp (disch := omega) only [go_sem]
      refine DRun.callQ (l01In_ok l.a 0 ((n.routers.length : Int) - 1)) ⟨[], rfl, rfl⟩ ?_
      rintro r s ⟨rfl, hs⟩
      obtain rfl := hs.symm
      generalize (decide (0 ≤ l.a) && decide (l.a ≤ (n.routers.length : Int) - 1)) = q1 at *
      cases q1 with
      | false =>
        simp (disch := omega) only [go_sem]
        refine DRun.skipG rfl ?_
        simp (disch := omega) only [go_sem]
        refine DRun.skipG rfl ?_
        simp (disch := omega) only [go_sem]
        refine DRun.skipG rfl ?_
        simp (disch := omega) only [go_sem]
        exact W_retC c27_ok rfl (Conv.drop _ (hσ3 _)) ⟨by rw [hno (by rw [hdef]; simp)]; rfl, rfl⟩
      | true =>
        simp (disch := omega) only [go_sem]
        refine DRun.callG (l01In_ok l.b 0 ((n.routers.length : Int) - 1)) ⟨[], rfl, rfl⟩ rfl ?_
        rintro r s ⟨rfl, hs⟩
        obtain rfl := hs.symm
        generalize (decide (0 ≤ l.b) && decide (l.b ≤ (n.routers.length : Int) - 1)) = q2 at *
        cases q2 with
        | false =>
          simp (disch := omega) only [go_sem]
          refine DRun.skipG rfl ?_
          simp (disch := omega) only [go_sem]
          refine DRun.skipG rfl ?_
          simp (disch := omega) only [go_sem]
          exact W_retC c27_ok rfl (Conv.drop _ (hσ3 _)) ⟨by rw [hno (by rw [hdef]; simp)]; rfl, rfl⟩
        | true =>
          by_cases hab : l.a = l.b
          · have hd : decide (l.a = l.b) = true := decide_eq_true hab
            rw [hd] at hdef
            simp (disch := omega) only [hd, go_sem]
            refine DRun.skipG rfl ?_
            simp (disch := omega) only [go_sem]
            refine DRun.skipG rfl ?_
            simp (disch := omega) only [go_sem]
            exact W_retC c27_ok rfl (Conv.drop _ (hσ3 _)) ⟨by rw [hno (by rw [hdef]; simp)]; rfl, rfl⟩
          · have hd : decide (l.a = l.b) = false := decide_eq_false hab
            rw [hd] at hdef
            simp (disch := omega) only [hd, go_sem]
            refine DRun.callG (l01In_ok l.cost 1 100) ⟨[], rfl, rfl⟩ rfl ?_
            rintro r s ⟨rfl, hs⟩
            obtain rfl := hs.symm
            generalize (decide (1 ≤ l.cost) && decide (l.cost ≤ 100)) = q4 at *
            cases q4 with
            | false =>
              simp (disch := omega) only [go_sem]
              refine DRun.skipG rfl ?_
              simp (disch := omega) only [go_sem]
              exact W_retC c27_ok rfl (Conv.drop _ (hσ3 _)) ⟨by rw [hno (by rw [hdef]; simp)]; rfl, rfl⟩
            | true =>
              simp (disch := omega) only [g1'', e1, go_sem]
              refine DRun.callG (l06Link_ok (ex := false) (ls := n.links.take k) (x := l.a) (y := l.b) (by rw [List.length_take]; omega)) ⟨[], rfl, by rw [← hti]; rfl⟩ rfl ?_
              rintro r s ⟨rfl, hs⟩
              obtain rfl := hs.symm
              cases q5 with
              | true =>
                simp (disch := omega) only [hfa, go_sem]
                exact W_retC c27_ok rfl (Conv.drop _ (hσ3 _)) ⟨by rw [hno (by rw [hdef]; simp)]; rfl, rfl⟩
              | false =>
                simp (disch := omega) only [hfa, go_sem]
                exact ih2 (k + 1, _) _ _ ⟨by simp only; omega, hnx (by rw [hdef]; rfl), fun d x h => le_upd hb6 _ _ (hle2 _ _ h)⟩ (by simp only; omega) (by simp (disch := omega) only [subT, Int.natCast_add, Int.cast_ofNat_Int, go_sem] <;> (repeat' apply And.intro) <;> first | rfl | (congr 1; omega) | assumption) rfl
    · have hkr : k = n.links.length := by omega
      rw [hkr] at hallk
      have hlinks := range_all hallk
      clear ih2 hq2
      simp (disch := omega) only [go_sem]
      refine W_loopC (α := Nat × St) (fun p => p.1 ≤ n.imports.length ∧ (n.imports.take p.1).all (impOn n.links) = true ∧ ∀ d x, s1 d = some x → p.2 d = some x) (fun p => [(1, .ptr b1 0), (3, .int .i64 n.routers.length), (7, .int .i64 (p.1 : Nat))]) (fun p => p.2) (fun p => n.imports.length - p.1) (0, s2) ⟨by omega, rfl, hle2⟩ (by simp (disch := omega) only [subT, Int.natCast_add, Int.cast_ofNat_Int, go_sem] <;> (repeat' apply And.intro) <;> first | rfl | (congr 1; omega) | assumption) rfl ?_
      clear g1' hle2 hσ2
      rintro ⟨m, s3⟩ ⟨hm, hallm, hle3⟩ ih3
      dsimp only at hm hallm hle3
      have hσ3 : ∀ d x, σ d = some x → s3 d = some x := fun d x h => hle3 _ _ (hσ d x h)
      have g1' := hle3 _ _ g1
      simp (disch := omega) only [g1', e4, go_sem]
      first | refine iteW_dec (fun hq3 => ?_) (fun hq3 => ?_) | refine iteW_of (fun hq3 => ?_) (fun hq3 => ?_)
      · have hno : impOn n.links (n.imports.getD m default) = false → netB n = false := fun h => by
          have := all_falseD (xs := n.imports) (p := impOn n.links) (i := m) (by omega) h
          unfold netB; rw [this]; simp
        have hnx := all_takeD (xs := n.imports) (p := impOn n.links) (i := m) (by omega) hallm
        simp (disch := omega) only [g1', e4, go_sem]
        generalize n.imports.getD m default = x at *
        have hdef : impOn n.links x = (decide (0 ≤ linkP n.links x.at_ x.from_) && ((decide (0 ≤ x.when_) && decide (x.when_ ≤ 2)) && (decide (1 ≤ x.do_) && decide (x.do_ ≤ 4)) && (decide (0 ≤ x.n) && decide (x.n ≤ if x.do_ = 2 then 1000 else 0)))) := rfl
        refine SRun.allocR ?_
        intro b8 hb8
        have n81 : b8 ≠ b1 := fun e => by subst e; rw [g1'] at hb8; cases hb8
        have g1'' : ∀ z, upd s3 b8 z b1 = some (netC n) := fun z => by rw [upd_ne _ _ n81.symm]; exact g1'
        have hσ4 : ∀ z, ∀ d x, σ d = some x → upd s3 b8 z d = some x := fun z d x h => le_upd hb8 _ _ (hσ3 d x h)
        have hic : impC x = [.int .i64 x.at_, .int .i64 x.from_, .int .i64 x.when_, .int .i64 x.do_, .int .i64 x.n] := rfl
        simp (disch := omega) only [hic, g1'', e1, go_sem]
        refine SRun.callR (l06Link_ok (ex := false) (ls := n.links) (x := x.at_) (y := x.from_) l2) ⟨[], rfl, rfl⟩ rfl ?_
        by_cases h0 : linkP n.links x.at_ x.from_ < 0
        · have hd : decide (0 ≤ linkP n.links x.at_ x.from_) = false := decide_eq_false (by omega)
          have hd2 : decide (linkP n.links x.at_ x.from_ < 0) = true := decide_eq_true h0
          rw [hd] at hdef
          simp (disch := omega) only [hd2, go_sem]
          exact W_retC c27_ok rfl (Conv.drop _ (hσ4 _)) ⟨by rw [hno (by rw [hdef]; simp)]; rfl, rfl⟩
        · have hd : decide (0 ≤ linkP n.links x.at_ x.from_) = true := decide_eq_true (by omega)
          have hd2 : decide (linkP n.links x.at_ x.from_ < 0) = false := decide_eq_false h0
          rw [hd] at hdef
          simp (disch := omega) only [hd2, go_sem]
          refine SRun.callR (l01In_ok x.when_ 0 2) ⟨[], rfl, rfl⟩ rfl ?_
          generalize (decide (0 ≤ x.when_) && decide (x.when_ ≤ 2)) = q1 at *
          cases q1 with
          | false =>
            simp (disch := omega) only [go_sem]
            exact W_retC c27_ok rfl (Conv.drop _ (hσ4 _)) ⟨by rw [hno (by rw [hdef]; simp)]; rfl, rfl⟩
          | true =>
            simp (disch := omega) only [go_sem]
            refine SRun.callR (l01In_ok x.do_ 1 4) ⟨[], rfl, rfl⟩ rfl ?_
            generalize (decide (1 ≤ x.do_) && decide (x.do_ ≤ 4)) = q2 at *
            cases q2 with
            | false =>
              simp (disch := omega) only [go_sem]
              exact W_retC c27_ok rfl (Conv.drop _ (hσ4 _)) ⟨by rw [hno (by rw [hdef]; simp)]; rfl, rfl⟩
            | true =>
              by_cases h2 : x.do_ = 2
              · have hd3' : decide (x.do_ = 2) = true := decide_eq_true h2
                have hd4' : (decide ¬ x.do_ = 2) = false := decide_eq_false (fun h => h h2)
                rw [if_pos h2] at hdef
                simp (disch := omega) only [hd3', hd4', go_sem]
                refine SRun.callR (l01In_ok x.n 0 1000) ⟨[], rfl, rfl⟩ rfl ?_
                generalize (decide (0 ≤ x.n) && decide (x.n ≤ 1000)) = q3 at *
                cases q3 with
                | false =>
                  simp (disch := omega) only [hd4', go_sem]
                  exact W_retC c27_ok rfl (Conv.drop _ (hσ4 _)) ⟨by rw [hno (by rw [hdef]; simp)]; rfl, rfl⟩
                | true =>
                  simp (disch := omega) only [hd4', go_sem]
                  exact ih3 (m + 1, _) _ _ ⟨by simp only; omega, hnx (by rw [hdef]; rfl), fun d x h => le_upd hb8 _ _ (hle3 _ _ h)⟩ (by simp only; omega) (by simp (disch := omega) only [subT, Int.natCast_add, Int.cast_ofNat_Int, go_sem] <;> (repeat' apply And.intro) <;> first | rfl | (congr 1; omega) | assumption) rfl
              · have hd3' : decide (x.do_ = 2) = false := decide_eq_false h2
                have hd4' : (decide ¬ x.do_ = 2) = true := decide_eq_true h2
                rw [if_neg h2] at hdef
                by_cases hn0 : x.n = 0
                · have hd5' : (decide ¬ x.n = 0) = false := decide_eq_false (fun h => h hn0)
                  simp (disch := omega) only [hd3', hd4', hd5', go_sem]
                  exact ih3 (m + 1, _) _ _ ⟨by simp only; omega, hnx (by rw [hdef, hn0]; rfl), fun d x h => le_upd hb8 _ _ (hle3 _ _ h)⟩ (by simp only; omega) (by simp (disch := omega) only [subT, Int.natCast_add, Int.cast_ofNat_Int, go_sem] <;> (repeat' apply And.intro) <;> first | rfl | (congr 1; omega) | assumption) rfl
                · have hd5' : (decide ¬ x.n = 0) = true := decide_eq_true hn0
                  simp (disch := omega) only [hd3', hd4', hd5', go_sem]
                  exact W_retC c27_ok rfl (Conv.drop _ (hσ4 _)) ⟨by rw [hno (by rw [hdef]; simp; omega)]; rfl, rfl⟩
      · have hmr : m = n.imports.length := by omega
        rw [hmr, List.take_length] at hallm
        clear ih3 hq3
        simp (disch := omega) only [go_sem]
        refine W_loopC (α := Nat × St) (fun p => p.1 ≤ n.filters.length ∧ (n.filters.take p.1).all (filOn n.links) = true ∧ ∀ d x, s1 d = some x → p.2 d = some x) (fun p => [(1, .ptr b1 0), (3, .int .i64 n.routers.length), (9, .int .i64 (p.1 : Nat))]) (fun p => p.2) (fun p => n.filters.length - p.1) (0, s3) ⟨by omega, rfl, hle3⟩ (by simp (disch := omega) only [subT, Int.natCast_add, Int.cast_ofNat_Int, go_sem] <;> (repeat' apply And.intro) <;> first | rfl | (congr 1; omega) | assumption) rfl ?_
        clear g1' hle3 hσ3
        rintro ⟨j, s4⟩ ⟨hj, hallj, hle4⟩ ih4
        dsimp only at hj hallj hle4
        have hσ4 : ∀ d x, σ d = some x → s4 d = some x := fun d x h => hle4 _ _ (hσ d x h)
        have g1' := hle4 _ _ g1
        simp (disch := omega) only [g1', e5, go_sem]
        first | refine iteW_dec (fun hq4 => ?_) (fun hq4 => ?_) | refine iteW_of (fun hq4 => ?_) (fun hq4 => ?_)
        · have hno : filOn n.links (n.filters.getD j default) = false → netB n = false := fun h => by
            have := all_falseD (xs := n.filters) (p := filOn n.links) (i := j) (by omega) h
            unfold netB; rw [this]; simp
          have hnx := all_takeD (xs := n.filters) (p := filOn n.links) (i := j) (by omega) hallj
          simp (disch := omega) only [g1', e5, go_sem]
          generalize n.filters.getD j default = x at *
          have hdef := fil_eq n.links x
          refine SRun.allocR ?_
          intro b10 hb10
          have n101 : b10 ≠ b1 := fun e => by subst e; rw [g1'] at hb10; cases hb10
          have g1'' : ∀ z, upd s4 b10 z b1 = some (netC n) := fun z => by rw [upd_ne _ _ n101.symm]; exact g1'
          have hσ5 : ∀ z, ∀ d x, σ d = some x → upd s4 b10 z d = some x := fun z d x h => le_upd hb10 _ _ (hσ4 d x h)
          have hfc : filC x = [.int .i64 x.at_, .int .i64 x.to, .int .i64 x.low, .int .i64 x.high] := rfl
          simp (disch := omega) only [hfc, g1'', e1, go_sem]
          refine SRun.callR (l06Link_ok (ex := false) (ls := n.links) (x := x.at_) (y := x.to) l2) ⟨[], rfl, rfl⟩ rfl ?_
          by_cases h0 : linkP n.links x.at_ x.to < 0
          · have hd : decide (0 ≤ linkP n.links x.at_ x.to) = false := decide_eq_false (by omega)
            have hd2 : decide (linkP n.links x.at_ x.to < 0) = true := decide_eq_true h0
            rw [hd] at hdef
            simp (disch := omega) only [hd2, go_sem]
            exact W_retC c27_ok rfl (Conv.drop _ (hσ5 _)) ⟨by rw [hno (by rw [hdef]; simp)]; rfl, rfl⟩
          · have hd : decide (0 ≤ linkP n.links x.at_ x.to) = true := decide_eq_true (by omega)
            have hd2 : decide (linkP n.links x.at_ x.to < 0) = false := decide_eq_false h0
            rw [hd] at hdef
            simp (disch := omega) only [hd2, go_sem]
            refine SRun.callR (l01In_ok x.low 0 15) ⟨[], rfl, rfl⟩ rfl ?_
            generalize (decide (0 ≤ x.low) && decide (x.low ≤ 15)) = q1 at *
            cases q1 with
            | false =>
              simp (disch := omega) only [go_sem]
              exact W_retC c27_ok rfl (Conv.drop _ (hσ5 _)) ⟨by rw [hno (by rw [hdef]; simp)]; rfl, rfl⟩
            | true =>
              simp (disch := omega) only [go_sem]
              refine SRun.callR (l01In_ok x.high x.low 15) ⟨[], rfl, rfl⟩ rfl ?_
              generalize (decide (x.low ≤ x.high) && decide (x.high ≤ 15)) = q2 at *
              cases q2 with
              | false =>
                simp (disch := omega) only [go_sem]
                exact W_retC c27_ok rfl (Conv.drop _ (hσ5 _)) ⟨by rw [hno (by rw [hdef]; simp)]; rfl, rfl⟩
              | true =>
                simp (disch := omega) only [go_sem]
                exact ih4 (j + 1, _) _ _ ⟨by simp only; omega, hnx (by rw [hdef]; rfl), fun d x h => le_upd hb10 _ _ (hle4 _ _ h)⟩ (by simp only; omega) (by simp (disch := omega) only [subT, Int.natCast_add, Int.cast_ofNat_Int, go_sem] <;> (repeat' apply And.intro) <;> first | rfl | (congr 1; omega) | assumption) rfl
        · have hjr : j = n.filters.length := by omega
          rw [hjr, List.take_length] at hallj
          have hB : netB n = true := by
            unfold netB
            rw [hnames, hlinks, hallm, hallj, r5, r6, decide_eq_true r1.1, decide_eq_true r1.2, decide_eq_true r2, decide_eq_true r3, decide_eq_true r4, decide_eq_true r7]
            rfl
          rw [hB]
          simp (disch := omega) only [go_sem]
          exact W_retC c27_ok rfl (Conv.drop _ hσ4) ⟨rfl, rfl⟩
end
end
end Go.Proofs.YtjibkkhgejcjeaaGreatDoor.Lg
