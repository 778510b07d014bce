/- Circuits: gates, each once. -/
import Derived.Test.YtlidjjjpjndneaaEf
set_option linter.unusedSimpArgs false
set_option linter.unusedVariables false
namespace Go.Proofs.Ytlidjjjpjndneaa.Lg
open Go
attribute [local irreducible] SRun DS DRun
variable {Γ : St} {σ σ0 : St}
/-- The opposite of a literal. -/
def notP (y : Int) : Int := if y % 2 = 1 then y - 1 else y + 1
theorem xor1_nat (m : Nat) : m ^^^ 1 = if m % 2 = 1 then m - 1 else m + 1 := by
  have h1 : (m ^^^ 1) / 2 = m / 2 := by rw [Nat.xor_div_two]; simp
  have h2 : (m ^^^ 1) % 2 = (m + 1) % 2 := by
    have := Nat.xor_mod_two_pow (a := m) (b := 1) (n := 1)
    simp only [Nat.pow_one] at this
    rw [this]
    rcases Nat.mod_two_eq_zero_or_one m with h | h
    · rw [h]; have : (0 ^^^ 1 % 2) = 1 := by decide
      omega
    · rw [h]; have : (1 ^^^ 1 % 2) = 0 := by decide
      omega
  split <;> omega
theorem xor1 {y : Int} (h : 0 ≤ y) (h2 : y ≤ 4611686018427387904) : bitsV .xor .i64 y 1 = notP y := by
  obtain ⟨m, rfl⟩ : ∃ m : Nat, y = m := ⟨y.toNat, by omega⟩
  have e : (BitVec.ofInt 64 (m : Int) ^^^ BitVec.ofInt 64 1).toNat = m ^^^ 1 := by
    rw [BitVec.toNat_xor]
    simp only [BitVec.toNat_ofInt]
    congr 1
    omega
  have hx := xor1_nat m
  show IntKind.i64.wrap (((BitVec.ofInt 64 (m : Int) ^^^ BitVec.ofInt 64 1).toNat : Nat) : Int) = _
  rw [e, wrap64 (by omega) (by split at hx <;> omega), notP]
  split at hx <;> split <;> omega
theorem stepK_eqa2 {σ : St} {K : V → St → Prop} (a b c d : Int) : stepK (.eqa false [0, 0] (.c (.agg [.int .i64 a, .int .i64 b])) (.c (.agg [.int .i64 c, .int .i64 d]))) σ K = K (.bool (decide (a = c ∧ b = d))) σ := by
  rw [stepK_eqa]
  have : (a == c && (b == d && true)) = decide (a = c ∧ b = d) := by rw [Bool.eq_iff_iff]; simp
  simp [pureK, pureI, ev, eqK]
  exact Iff.rfl
attribute [go_sem] stepK_eqa2
def gV (g : Int × Int) : V := .agg [.int .i64 g.1, .int .i64 g.2]
def gsV (gs : List (Int × Int)) : List V := gs.map gV
theorem gsV_ok (gs : List (Int × Int)) : ∀ y ∈ gsV gs, y.cells.length = 2 ∧ ∀ c ∈ y.cells, c.one = true := by
  intro y hy; simp only [gsV, List.mem_map] at hy; obtain ⟨g, _, rfl⟩ := hy; simp [gV, V.cells, V.one]
theorem gsV_len (gs : List (Int × Int)) : (gsV gs).length = gs.length := by simp [gsV]
theorem gsV_app (gs : List (Int × Int)) (g : Int × Int) : gsV gs ++ [gV g] = gsV (gs ++ [g]) := by simp [gsV]
theorem indexGate_ok {ex : Bool} {gs : List (Int × Int)} {g : Int × Int} (hl : gs.length ≤ 1000000) :
    Ret Try.prog Γ 203 [.isl ex 2 (gsV gs), gV g] σ (.int .i64 (match gs.findIdx? (· == g) with | some i => (i : Int) | none => -1)) σ := by
  obtain ⟨x, y⟩ := g
  refine ret_of c203_ok rfl ?_
  simp (disch := omega) only [c203, gV, go_sem, ↓if_pos, ne_eq, ↓reduceIte]
  refine SRun.boxR (by simp [ev, look, V.cells, V.one]) ?_
  intro b3 hb3
  have hgl := gsV_len gs
  simp (disch := omega) only [go_sem, ↓if_pos, ne_eq, ↓reduceIte]
  refine W_loopC (fun i : Nat => i ≤ gs.length ∧ ∀ j, j < i → (gs.getD j default == (x, y)) = false) (fun i => [(0, .isl ex 2 (gsV gs)), (3, .ptr b3 0), (7, .int .i64 gs.length), (8, .int .i64 i)]) (fun _ => upd σ b3 [.int .i64 x, .int .i64 y]) (fun i => gs.length - i) 0 ⟨by omega, fun j hj => by omega⟩ (by simp (disch := omega) only [subT, Int.natCast_add, Int.cast_ofNat_Int, go_sem, ↓if_pos, ne_eq, ↓reduceIte] <;> (repeat' apply And.intro) <;> first | rfl | (congr 1; omega) | assumption) rfl ?_
  rintro i ⟨hi, hno⟩ ih
  simp (disch := omega) only [go_sem, ↓if_pos, ne_eq, ↓reduceIte]
  first | refine iteW_dec (fun hq => ?_) (fun hq => ?_) | refine iteW_of (fun hq => ?_) (fun hq => ?_)
  · simp (disch := omega) only [gsV, go_sem, ↓if_pos, ne_eq, ↓reduceIte]
    refine W_drawW ?_
    simp (disch := omega) only [gV, go_sem, ↓if_pos, ne_eq, ↓reduceIte]
    have hgg : ((gs.getD i default) == (x, y)) = decide (x = (gs.getD i default).1 ∧ y = (gs.getD i default).2) := by
      rw [Bool.eq_iff_iff]; simp only [beq_iff_eq, decide_eq_true_eq, Prod.ext_iff]
      exact ⟨fun h => ⟨h.1.symm, h.2.symm⟩, fun h => ⟨h.1.symm, h.2.symm⟩⟩
    first | refine iteW_dec (fun h1 => ?_) (fun h1 => ?_) | refine iteW_of (fun h1 => ?_) (fun h1 => ?_)
    · simp (disch := omega) only [go_sem, ↓if_pos, ne_eq, ↓reduceIte]
      refine W_retC c203_ok rfl (Conv.drop _ (le_upd hb3)) ⟨?_, rfl⟩
      have : gs.findIdx? (· == (x, y)) = some i := by
        rw [List.findIdx?_eq_some_iff_getElem]
        refine ⟨by omega, ?_, fun j hj => ?_⟩
        · have := hgg.trans (decide_eq_true h1)
          simpa [List.getD, (by omega : i < gs.length)] using this
        · have := hno j hj
          simpa [List.getD, (by omega : j < gs.length)] using this
      rw [this]; rfl
    · simp (disch := omega) only [go_sem, ↓if_pos, ne_eq, ↓reduceIte]
      refine ih (i + 1) _ _ ⟨by omega, fun j hj => ?_⟩ (by omega) (by simp (disch := omega) only [subT, Int.natCast_add, Int.cast_ofNat_Int, gsV, go_sem, ↓if_pos, ne_eq, ↓reduceIte] <;> (repeat' apply And.intro) <;> first | rfl | (congr 1; omega) | assumption) rfl
      by_cases hji : j = i
      · subst hji; rw [hgg]; exact decide_eq_false h1
      · exact hno j (by omega)
  · simp (disch := omega) only [go_sem, ↓if_pos, ne_eq, ↓reduceIte]
    refine W_retC c203_ok rfl (Conv.drop _ (le_upd hb3)) ⟨?_, rfl⟩
    have : gs.findIdx? (· == (x, y)) = none := by
      rw [List.findIdx?_eq_none_iff]
      intro z hz
      obtain ⟨j, hj, rfl⟩ := List.getElem_of_mem hz
      have := hno j (by omega)
      simpa [List.getD, hj] using this
    rw [this]; rfl
/-- The and of two literals, and the gates behind it. -/
def andP (inp : Int) (gs : List (Int × Int)) (x y : Int) : Int × List (Int × Int) :=
  if min x y = 0 then (0, gs) else if min x y = 1 ∨ min x y = max x y then (max x y, gs) else if min x y / 2 = max x y / 2 then (0, gs) else
  match gs.findIdx? (· == (min x y, max x y)) with
  | some i => (2 * (1 + inp + i), gs)
  | none => (2 * (1 + inp + gs.length), gs ++ [(min x y, max x y)])
theorem and_ok {τ : St} {b : Nat} {inp : Int} {gs : List (Int × Int)} {q : V} {x y : Int} (h : OwnL (upd τ b [.int .i64 inp, q]) 2 (gsV gs) q σ) (hx : 0 ≤ x ∧ x ≤ 1000000000) (hy : 0 ≤ y ∧ y ≤ 1000000000) (hinp : 0 ≤ inp ∧ inp ≤ 1000) (hgs : gs.length ≤ 100000) :
    ACalls Try.prog Γ 201 [.ptr b 0, .int .i64 x, .int .i64 y] σ fun r σ' => ∃ q', r = .int .i64 (andP inp gs x y).1 ∧ OwnL (upd τ b [.int .i64 inp, q']) 2 (gsV (andP inp gs x y).2) q' σ' := by
  have gb := h.get (upd_same _ b _)
  have hq := h.one
  have hmn : (if y < x then y else x) = min x y := by omega
  have hmx : (if y > x then y else x) = max x y := by omega
  refine acalls_W c201_ok rfl ?_
  simp (disch := omega) only [c201, hmn, hmx, go_sem, ↓if_pos, ne_eq, ↓reduceIte]
  simp only [andP]
  have ha1 : 0 ≤ min x y := by omega
  have hab : min x y ≤ max x y := by omega
  have hb1 : max x y ≤ 1000000000 := by omega
  have hxr := xor1 (y := max x y) (by omega) (by omega)
  generalize min x y = a at *
  generalize max x y = c at *
  by_cases h0 : a = 0
  · have h0' : decide (a = 0) = true := decide_eq_true h0
    simp (disch := omega) only [h0', if_pos h0, go_sem, ↓if_pos, ne_eq, ↓reduceIte]
    refine W_retR c201_ok rfl ⟨q, rfl, h⟩
  · have h0' : decide (a = 0) = false := decide_eq_false h0
    have hnot : (a = notP c) = (¬ (a = 1 ∨ a = c) ∧ a / 2 = c / 2) := by
      unfold notP
      apply propext
      split <;> constructor <;> omega
    by_cases h1 : a = notP c
    · have h1' : decide (a = notP c) = true := decide_eq_true h1
      rw [hnot] at h1
      simp (disch := omega) only [h0', h1', hxr, if_neg h0, if_neg h1.1, if_pos h1.2, go_sem, ↓if_pos, ne_eq, ↓reduceIte]
      refine W_retR c201_ok rfl ⟨q, rfl, h⟩
    · have h1' : decide (a = notP c) = false := decide_eq_false h1
      rw [hnot] at h1
      by_cases h2 : a = 1
      · have h2' : decide (a = 1) = true := decide_eq_true h2
        simp (disch := omega) only [h0', h1', hxr, h2', if_neg h0, if_pos (Or.inl h2 : a = 1 ∨ a = c), go_sem, ↓if_pos, ne_eq, ↓reduceIte]
        refine W_retR c201_ok rfl ⟨q, rfl, h⟩
      · have h2' : decide (a = 1) = false := decide_eq_false h2
        by_cases h3 : a = c
        · have h3' : decide (a = c) = true := decide_eq_true h3
          simp (disch := omega) only [h0', h1', hxr, h2', h3', if_neg h0, if_pos (Or.inr h3 : a = 1 ∨ a = c), go_sem, ↓if_pos, ne_eq, ↓reduceIte]
          refine W_retR c201_ok rfl ⟨q, rfl, h⟩
        · have h3' : decide (a = c) = false := decide_eq_false h3
          have h4 : ¬ (a = 1 ∨ a = c) := by omega
          have h5 : ¬ (a / 2 = c / 2) := by omega
          simp (disch := omega) only [h0', h1', hxr, h2', h3', if_neg h0, if_neg h4, if_neg h5, go_sem, ↓if_pos, ne_eq, ↓reduceIte]
          refine SRun.allocR ?_
          intro b7 hb7
          have hb7b : b7 ≠ b := fun e => by subst e; rw [gb] at hb7; cases hb7
          simp (disch := omega) only [go_sem, ↓if_pos, ne_eq, ↓reduceIte]
          refine W_drawW ?_
          have gb' : upd σ b7 [.int .i64 a, .int .i64 c] b = some [.int .i64 inp, q] := le_upd hb7 _ _ gb
          have h' := h.ext (z := [.int .i64 a, .int .i64 c]) hb7
          have hgl := gsV_len gs
          simp (disch := omega) only [gb', go_sem, ↓if_pos, ne_eq, ↓reduceIte]
          refine DRun.callQ (Ret.lendL (indexGate_ok (σ := emp) (ex := false) (gs := gs) (g := (a, c)) (by omega)) (by exact ⟨h'.frz (fun _ _ => rfl) (fun _ _ => rfl), .refl _, trivial⟩) (Plain.int _ _)) ⟨[], rfl, rfl⟩ ?_
          rintro r s ⟨rfl, rfl⟩
          cases hf : gs.findIdx? (· == (a, c)) with
          | some i =>
            have hi : i < gs.length := by
              rw [List.findIdx?_eq_some_iff_getElem] at hf
              exact hf.1
            simp (disch := omega) only [gb', go_sem, ↓if_pos, ne_eq, ↓reduceIte]
            exact W_retC c201_ok (r := .int .i64 (2 * (1 + inp + i))) (r' := .int .i64 (2 * (1 + inp + i))) (σ' := σ) rfl (Conv.drop _ (le_upd hb7)) ⟨q, rfl, h⟩
          | none =>
            simp (disch := omega) only [gb', stepW_len_own h', go_sem, ↓if_pos, ne_eq, ↓reduceIte]
            rw [W_draw]
            refine DRun.start (DRun.mixO h' rfl ?_)
            intro s hs
            have g0b : upd (upd τ b [.int .i64 inp, q]) b7 [.int .i64 a, .int .i64 c] b = some [.int .i64 inp, q] := by rw [upd_ne _ _ hb7b.symm, upd_same]
            simp (disch := omega) only [g0b, go_sem, ↓if_pos, ne_eq, ↓reduceIte]
            refine DS.wrQ (WrF.appL hs rfl (gsV_ok [(a, c)]) (by rw [gsV_len]; simp only [List.length_singleton]; omega)) rfl ?_
            rintro r s2 ho2 hd
            have ho3 := ownL_join (hs.of_app (gsV_ok [(a, c)]) ho2) hd
            rw [show gsV gs ++ gsV [(a, c)] = gsV (gs ++ [(a, c)]) by simp [gsV]] at ho3
            have hr1 := ho3.one
            have hr2 := ho3.cells
            have g4b := ho3.get g0b
            have ho5 := ho3.upd (c' := [.int .i64 inp, r]) g0b
            rw [upd_comm _ hb7b, upd_upd] at ho5
            have hτ7 : upd τ b [.int .i64 inp, r] b7 = none := by
              rw [upd_ne _ _ hb7b]
              cases hc : τ b7 with
              | none => rfl
              | some x => rw [h.get (b := b7) (c := x) (by rw [upd_ne _ _ hb7b]; exact hc)] at hb7; cases hb7
            obtain ⟨σ6, hle6, ho6⟩ := ho5.drop hτ7
            simp (disch := omega) only [g4b, hr1, hr2, gsV_len, go_sem, ↓if_pos, ne_eq, ↓reduceIte]
            exact W_retC c201_ok (r := .int .i64 (2 * (1 + inp + gs.length))) (r' := .int .i64 (2 * (1 + inp + gs.length))) (σ' := σ6) rfl (Conv.drop _ hle6) ⟨r, rfl, ho6⟩
end Go.Proofs.Ytlidjjjpjndneaa.Lg
