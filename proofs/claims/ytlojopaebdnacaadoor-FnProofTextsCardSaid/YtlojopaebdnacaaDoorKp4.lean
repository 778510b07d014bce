/- What is told of the functions that are reached, as far as it is asked here. -/
import Derived.Test.YtlojopaebdnacaaDoorKp1
import Derived.Test.YtlojopaebdnacaaDoorLgL
import Derived.KernelRfl
set_option linter.unusedSimpArgs false
set_option linter.unusedVariables false
namespace Go.Proofs.YtlojopaebdnacaaDoor.Lg
open Go
section
attribute [local irreducible] SRun DS DRun
variable {Γ : St} {σ σ0 : St}
theorem l01Abs_lit {vars x : Int} (hx : litOK vars x) (hv : vars ≤ 1000000) : Ret Tryd.prog Γ 124 [.int .i64 x] σ (.int .i64 (x.natAbs : Int)) σ := l01Abs_ok (by have := hx.2; omega)
theorem setT_pos {vals : List Int} {x : Int} (h : 0 < x) : setT vals x = vals.set x.toNat 1 := by unfold setT; rw [if_neg (by omega)]
theorem setT_neg {vals : List Int} {x : Int} (h : x < 0) : setT vals x = vals.set (-x).toNat (-1) := by unfold setT; rw [if_pos h]
theorem ints_set {xs : List Int} {i : Nat} {y : Int} : (ints xs).set i (.int .i64 y) = ints (xs.set i y) := by simp [ints, List.map_set]
theorem l02Set_ok {vars x : Int} {vals : List Int} {bv n cap : Nat} (h : σ bv = some (ints vals)) (hn : n = vals.length) (hl : (vals.length : Int) = vars + 1) (hx : litOK vars x) (hv : vars ≤ 1000000) :
    Ret Tryd.prog Γ 96 [.msl bv 1 0 n cap, .int .i64 x] σ (.tup []) (upd σ bv (ints (setT vals x))) := by
  obtain ⟨hx0, hx1, hx2⟩ := hx
  have hil : (ints vals).length = vals.length := ints_len _
  refine ret_of c96_ok rfl ?_
  simp (disch := omega) only [c96, go_sem]
  first | refine iteW_dec (fun hq => ?_) (fun hq => ?_) | refine iteW_of (fun hq => ?_) (fun hq => ?_)
  · simp (disch := omega) only [h, go_sem]
    refine W_fallR c96_ok rfl ⟨rfl, ?_⟩
    rw [ints_set, setT_pos (by omega)]
  · simp (disch := omega) only [h, go_sem]
    refine W_fallR c96_ok rfl ⟨rfl, ?_⟩
    rw [ints_set, setT_neg (by omega), show (0 - x).toNat = (-x).toNat by omega]
/-- What the reference tells of a clause. -/
def clGo (vals : List Int) : List Int → Int → Int → Bool × Int × Int
  | [], op, one => (false, op, one)
  | x :: r, op, one => bif isT vals x then (true, 0, 0) else bif !isT vals (-x) && x != one then clGo vals r (op + 1) x else clGo vals r op one
theorem val_cases {vals : List Int} {vars x : Int} (hl : (vals.length : Int) = vars + 1) (ht : tri vals) (hx : litOK vars x) :
    (vals.getD x.natAbs 0 = 0 ∧ isT vals x = false ∧ isT vals (-x) = false) ∨ (vals.getD x.natAbs 0 = (if x < 0 then -1 else 1) ∧ isT vals x = true ∧ isT vals (-x) = false) ∨ (vals.getD x.natAbs 0 = (if x < 0 then 1 else -1) ∧ isT vals x = false ∧ isT vals (-x) = true) := by
  have hlt : x.natAbs < vals.length := by have := hx.2; omega
  have hm := ht _ (getD_mem 0 hlt)
  have h0 := hx.1
  rw [isT_val h0, isT_val (x := -x) (by omega), Int.natAbs_neg]
  generalize vals.getD x.natAbs 0 = v at hm
  by_cases hneg : x < 0
  · rw [if_pos hneg, if_neg (by omega : ¬ -x < 0), if_pos hneg]
    rcases hm with rfl | rfl | rfl <;> simp
  · rw [if_neg hneg, if_pos (by omega : -x < 0), if_neg hneg]
    rcases hm with rfl | rfl | rfl <;> simp
theorem l02Clause_ok {ex : Bool} {vars : Int} {c vals : List Int} {bv n cap : Nat} (h : σ bv = some (ints vals)) (hn : n = vals.length) (hl : (vals.length : Int) = vars + 1) (ht : tri vals) (hc : ∀ x ∈ c, litOK vars x) (hv : vars ≤ 1000000) (hcl : c.length ≤ 1000000) :
    Ret Tryd.prog Γ 110 [.isl ex 1 (ints c), .msl bv 1 0 n cap] σ (.tup [.bool (clGo vals c 0 0).1, .int .i64 (clGo vals c 0 0).2.1, .int .i64 (clGo vals c 0 0).2.2]) σ := by
  have hil : (ints vals).length = vals.length := ints_len _
  generalize hR : clGo vals c 0 0 = R
  refine ret_of c110_ok rfl ?_
  simp (disch := omega) only [c110, go_sem]
  refine W_loopC (fun p : Nat × Int × Int => p.1 ≤ c.length ∧ 0 ≤ p.2.1 ∧ p.2.1 ≤ p.1 ∧ clGo vals (c.drop p.1) p.2.1 p.2.2 = R) (fun p => [(0, .isl ex 1 (ints c)), (1, .msl bv 1 0 n cap), (7, .int .i64 p.2.1), (8, .int .i64 p.2.2), (9, .int .i64 p.1)])
    (fun _ => σ) (fun p => c.length - p.1) (0, 0, 0) ⟨by omega, by simp, by simp, hR⟩ (by simp (disch := omega) only [subT, Int.natCast_add, Int.cast_ofNat_Int, go_sem] <;> (repeat' apply And.intro) <;> first | rfl | (congr 1; omega) | assumption) rfl ?_
  rintro ⟨i, op, one⟩ ⟨hi, ho0, ho1, hgo⟩ ih
  dsimp only at hi ho0 ho1 hgo ⊢
  simp (disch := omega) only [go_sem]
  first | refine iteW_dec (fun hq => ?_) (fun hq => ?_) | refine iteW_of (fun hq => ?_) (fun hq => ?_)
  · have hx := hc _ (getD_mem 0 (by omega : i < c.length))
    rw [drop_cons 0 (by omega)] at hgo
    simp only [clGo] at hgo
    simp (disch := omega) only [go_sem]
    generalize hxe : c.getD i 0 = x at hx hgo ⊢
    have hx2 := hx.2
    have hcases := val_cases hl ht hx
    have hget : (ints vals)[x.natAbs]? = some (.int .i64 (vals.getD x.natAbs 0)) := ints_get (getD_some 0 (by omega))
    refine SRun.callR (l01Abs_lit hx hv) ⟨[], rfl, rfl⟩ rfl ?_
    simp (disch := omega) only [List.getD_cons_zero, List.getD_cons_succ, go_sem]
    simp (disch := omega) only [h, hget, hxe, go_sem]
    generalize vals.getD x.natAbs 0 = v at hcases ⊢
    have hv1 : v = 0 ∨ v = 1 ∨ v = -1 := by
      rcases hcases with h | h | h
      · exact .inl h.1
      · have := h.1; split at this <;> omega
      · have := h.1; split at this <;> omega
    first | refine iteW_dec (fun hneg => ?_) (fun hneg => ?_) | refine iteW_of (fun hneg => ?_) (fun hneg => ?_)
    · rw [if_pos hneg, if_pos hneg] at hcases
      simp (disch := omega) only [hxe, go_sem]
      first | refine iteW_dec (fun h1 => ?_) (fun h1 => ?_) | refine iteW_of (fun h1 => ?_) (fun h1 => ?_)
      · have : isT vals x = true := by rcases hcases with h | h | h <;> first | omega | exact h.2.1
        rw [this] at hgo
        simp (disch := omega) only [hxe, go_sem]
        refine W_retR c110_ok rfl ⟨?_, rfl⟩
        rw [← hgo]; rfl
      · simp (disch := omega) only [go_sem]
        first | refine guardW_dec (fun h2 => ?_) (fun h2 => ?_) | refine guardW_by (fun h2 => ?_) (fun h2 => ?_)
        · have e : isT vals x = false ∧ isT vals (-x) = false := by rcases hcases with h | h | h <;> first | omega | exact h.2
          rw [e.1, e.2] at hgo
          simp (disch := omega) only [hxe, go_sem]
          first | refine iteW_dec (fun h3 => ?_) (fun h3 => ?_) | refine iteW_of (fun h3 => ?_) (fun h3 => ?_)
          · have : (x != one) = true := by simp; omega
            rw [this] at hgo
            simp (disch := omega) only [hxe, go_sem]
            refine ih (i + 1, op + 1, x) _ _ ⟨by simp only; omega, by simp only; omega, by simp only; omega, hgo⟩ (by simp only; omega) (by simp (disch := omega) only [subT, Int.natCast_add, Int.cast_ofNat_Int, go_sem] <;> (repeat' apply And.intro) <;> first | rfl | (congr 1; omega) | assumption) rfl
          · have : (x != one) = false := by simp; omega
            rw [this] at hgo
            simp (disch := omega) only [hxe, go_sem]
            refine ih (i + 1, op, one) _ _ ⟨by simp only; omega, by simp only; omega, by simp only; omega, hgo⟩ (by simp only; omega) (by simp (disch := omega) only [subT, Int.natCast_add, Int.cast_ofNat_Int, go_sem] <;> (repeat' apply And.intro) <;> first | rfl | (congr 1; omega) | assumption) rfl
        · have e : isT vals x = false ∧ isT vals (-x) = true := by rcases hcases with h | h | h <;> first | omega | exact h.2
          rw [e.1, e.2] at hgo
          simp (disch := omega) only [hxe, go_sem]
          refine ih (i + 1, op, one) _ _ ⟨by simp only; omega, by simp only; omega, by simp only; omega, hgo⟩ (by simp only; omega) (by simp (disch := omega) only [subT, Int.natCast_add, Int.cast_ofNat_Int, go_sem] <;> (repeat' apply And.intro) <;> first | rfl | (congr 1; omega) | assumption) rfl
    · rw [if_neg hneg, if_neg hneg] at hcases
      simp (disch := omega) only [hxe, go_sem]
      first | refine iteW_dec (fun h1 => ?_) (fun h1 => ?_) | refine iteW_of (fun h1 => ?_) (fun h1 => ?_)
      · have : isT vals x = true := by rcases hcases with h | h | h <;> first | omega | exact h.2.1
        rw [this] at hgo
        simp (disch := omega) only [hxe, go_sem]
        refine W_retR c110_ok rfl ⟨?_, rfl⟩
        rw [← hgo]; rfl
      · simp (disch := omega) only [go_sem]
        first | refine guardW_dec (fun h2 => ?_) (fun h2 => ?_) | refine guardW_by (fun h2 => ?_) (fun h2 => ?_)
        · have e : isT vals x = false ∧ isT vals (-x) = false := by rcases hcases with h | h | h <;> first | omega | exact h.2
          rw [e.1, e.2] at hgo
          simp (disch := omega) only [hxe, go_sem]
          first | refine iteW_dec (fun h3 => ?_) (fun h3 => ?_) | refine iteW_of (fun h3 => ?_) (fun h3 => ?_)
          · have : (x != one) = true := by simp; omega
            rw [this] at hgo
            simp (disch := omega) only [hxe, go_sem]
            refine ih (i + 1, op + 1, x) _ _ ⟨by simp only; omega, by simp only; omega, by simp only; omega, hgo⟩ (by simp only; omega) (by simp (disch := omega) only [subT, Int.natCast_add, Int.cast_ofNat_Int, go_sem] <;> (repeat' apply And.intro) <;> first | rfl | (congr 1; omega) | assumption) rfl
          · have : (x != one) = false := by simp; omega
            rw [this] at hgo
            simp (disch := omega) only [hxe, go_sem]
            refine ih (i + 1, op, one) _ _ ⟨by simp only; omega, by simp only; omega, by simp only; omega, hgo⟩ (by simp only; omega) (by simp (disch := omega) only [subT, Int.natCast_add, Int.cast_ofNat_Int, go_sem] <;> (repeat' apply And.intro) <;> first | rfl | (congr 1; omega) | assumption) rfl
        · have e : isT vals x = false ∧ isT vals (-x) = true := by rcases hcases with h | h | h <;> first | omega | exact h.2
          rw [e.1, e.2] at hgo
          simp (disch := omega) only [hxe, go_sem]
          refine ih (i + 1, op, one) _ _ ⟨by simp only; omega, by simp only; omega, by simp only; omega, hgo⟩ (by simp only; omega) (by simp (disch := omega) only [subT, Int.natCast_add, Int.cast_ofNat_Int, go_sem] <;> (repeat' apply And.intro) <;> first | rfl | (congr 1; omega) | assumption) rfl
  · rw [List.drop_of_length_le (by omega)] at hgo
    simp (disch := omega) only [go_sem]
    refine W_retR c110_ok rfl ⟨?_, rfl⟩
    rw [← hgo]; rfl
/-- The reference and the program tell the same of a clause. -/
theorem clGo_many {vals : List Int} : ∀ {c : List Int} {op one : Int}, 2 ≤ op → (clGo vals c op one).1 = true ∨ 2 ≤ (clGo vals c op one).2.1 := by
  intro c
  induction c with
  | nil => intro op one h; exact .inr h
  | cons x r ih =>
    intro op one h
    simp only [clGo]
    cases isT vals x with
    | true => exact .inl rfl
    | false =>
      simp only [cond_false]
      cases (!isT vals (-x) && x != one) with
      | true => exact ih (by omega)
      | false => exact ih h
/-- What the program makes of it. -/
def unitOf (A : Bool × Int × Int) : Int × Bool := bif A.1 then (0, false) else if A.2.1 = 0 then (0, true) else if A.2.1 = 1 then (A.2.2, false) else (0, false)
theorem clGo_unit {vals : List Int} : ∀ {c : List Int} {op one : Int}, (∀ x ∈ c, x ≠ 0) → (op = 0 ∧ one = 0) ∨ (op = 1 ∧ one ≠ 0) →
    unitGo vals c one = unitOf (clGo vals c op one) := by
  intro c
  induction c with
  | nil =>
    intro op one _ h
    rcases h with ⟨rfl, rfl⟩ | ⟨rfl, h⟩
    · rfl
    · simp [unitGo, clGo, unitOf, h]
  | cons x r ih =>
    intro op one hne h
    have hx := hne x (by simp)
    have hne' : ∀ y ∈ r, y ≠ 0 := fun y hy => hne y (by simp [hy])
    simp only [unitGo, clGo]
    cases h1 : isT vals x with
    | true => rfl
    | false =>
      simp only [cond_false]
      cases h2 : isT vals (-x) with
      | true => simp only [Bool.true_or, cond_true, Bool.not_true, Bool.false_and, cond_false]; exact ih hne' h
      | false =>
        simp only [Bool.false_or, Bool.not_false, Bool.true_and]
        by_cases hxo : x = one
        · subst hxo
          simp only [beq_self_eq_true, cond_true, bne_self_eq_false, cond_false]
          exact ih hne' h
        · have e1 : (x == one) = false := by simpa using hxo
          have e2 : (x != one) = true := by simpa using hxo
          rw [e1, e2]
          simp only [cond_false, cond_true]
          rcases h with ⟨rfl, rfl⟩ | ⟨rfl, h⟩
          · simp only [bne_self_eq_false, cond_false]
            exact ih hne' (.inr ⟨rfl, hx⟩)
          · have e3 : (one != 0) = true := by simpa using h
            rw [e3]
            simp only [cond_true]
            have hm := clGo_many (vals := vals) (c := r) (op := 1 + 1) (one := x) (by omega)
            generalize clGo vals r (1 + 1) x = A at hm
            obtain ⟨p, q, s⟩ := A
            dsimp only at hm
            cases p with
            | true => rfl
            | false =>
              have hq : 2 ≤ q := by rcases hm with h | h <;> first | exact h | cases h
              simp only [unitOf, cond_false]
              rw [if_neg (by omega), if_neg (by omega)]
section
variable {P : Program} {f : FuncId} {n : Nat} {Q : V → St → Prop} {k : List It} {T : Ts} {g : GI} {l : List GI}
theorem stepW_iaddr_cls {ex : Bool} {cls : List (List Int)} {kk : IntKind} {m : Int} (h0 : 0 ≤ m) (h1 : m < cls.length) : stepW P Γ f n Q (.iaddr 1 (.c (.isl ex 1 (clsV cls))) (.c (.int kk m))) g l k T σ = W P Γ f n Q (.ops l :: k) (putT T g.d (.iptr [intsV (cls.getD m.toNat [])])) σ := stepW_iaddr_map h0 h1
theorem stepK_iaddr_cls {K : V → St → Prop} {ex : Bool} {cls : List (List Int)} {kk : IntKind} {m : Int} (h0 : 0 ≤ m) (h1 : m < cls.length) : stepK (.iaddr 1 (.c (.isl ex 1 (clsV cls))) (.c (.int kk m))) σ K = K (.iptr [intsV (cls.getD m.toNat [])]) σ := stepK_iaddr_map h0 h1
end
attribute [go_sem] stepW_iaddr_cls stepK_iaddr_cls clsV_len
theorem l02Run_ok {ex : Bool} {vars : Int} {cls : List (List Int)} {vals : List Int} {bv n cap : Nat} (h : σ bv = some (ints vals)) (hn : n = vals.length) (hl : (vals.length : Int) = vars + 1) (ht : tri vals) (hv : vars ≤ 1000000) (hc : ClsOK vars cls) :
    Ret Tryd.prog Γ 97 [.isl ex 1 (clsV cls), .msl bv 1 0 n cap] σ (.tup [intsV (propGo cls (zeros vals + 1) vals []).1, .int .i64 (propGo cls (zeros vals + 1) vals []).2.1]) (upd σ bv (ints (propGo cls (zeros vals + 1) vals []).2.2)) := by
  generalize hR : propGo cls (zeros vals + 1) vals [] = R
  have hcl := hc.1.1
  refine ret_of c97_ok rfl ?_
  simp (disch := omega) only [c97, go_sem]
  refine W_loopC (fun p : List Int × List Int × V × St => p.1.length = vals.length ∧ tri p.1 ∧ p.2.1.length + zeros p.1 ≤ vals.length ∧ propGo cls (zeros p.1 + 1) p.1 p.2.1 = R ∧ OwnL (upd σ bv (ints p.1)) 1 (ints p.2.1) p.2.2.1 p.2.2.2) (fun p => [(0, .isl ex 1 (clsV cls)), (1, .msl bv 1 0 n cap), (6, p.2.2.1)])
    (fun p => p.2.2.2) (fun p => zeros p.1) (vals, [], _, _) ⟨rfl, ht, ?_, hR, by rw [upd_self σ h]; exact OwnL.nil 1 1⟩ (by simp (disch := omega) only [subT, Int.natCast_add, Int.cast_ofNat_Int, go_sem] <;> (repeat' apply And.intro) <;> first | rfl | (congr 1; omega) | assumption) rfl ?_
  · have : zeros vals ≤ (vals.drop 1).length := List.count_le_length
    simp at this ⊢; omega
  rintro ⟨v2, list, r6, σ1⟩ ⟨hlv, ht2, hlz, hgo, ho⟩ ih
  dsimp only at hlv ht2 hlz hgo ho ⊢
  have hb := ho.get (upd_same σ bv _)
  have hl2 : (v2.length : Int) = vars + 1 := by omega
  simp (disch := omega) only [go_sem]
  refine W_loopC (fun p : Nat × Int => p.1 ≤ cls.length ∧ scanGo v2 cls 0 0 = scanGo v2 (cls.drop p.1) p.1 p.2) (fun p => [(0, .isl ex 1 (clsV cls)), (1, .msl bv 1 0 n cap), (6, r6), (7, .int .i64 p.2), (8, .int .i64 p.1)])
    (fun _ => σ1) (fun p => cls.length - p.1) (0, 0) ⟨by omega, rfl⟩ (by simp (disch := omega) only [subT, Int.natCast_add, Int.cast_ofNat_Int, go_sem] <;> (repeat' apply And.intro) <;> first | rfl | (congr 1; omega) | assumption) rfl ?_
  rintro ⟨i, next⟩ ⟨hi, hsc⟩ ih2
  dsimp only at hi hsc ⊢
  simp (disch := omega) only [go_sem]
  first | refine iteW_dec (fun hq => ?_) (fun hq => ?_) | refine iteW_of (fun hq => ?_) (fun hq => ?_)
  · have hmem := getD_mem [] (by omega : i < cls.length)
    have hlit := hc.2 _ hmem
    have hsm := hc.1.2 _ hmem
    rw [drop_cons [] (by omega)] at hsc
    simp only [scanGo] at hsc
    simp (disch := omega) only [go_sem]
    generalize cls.getD i [] = c at hlit hsm hsc
    have hu := clGo_unit (vals := v2) (c := c) (op := 0) (one := 0) (fun x hx => (hlit x hx).1) (.inl ⟨rfl, rfl⟩)
    refine SRun.callR (l02Clause_ok (ex := false) (vars := vars) (c := c) hb (by omega) hl2 ht2 hlit hv hsm) ⟨[], rfl, rfl⟩ rfl ?_
    simp (disch := omega) only [List.getD_cons_zero, List.getD_cons_succ, go_sem]
    obtain ⟨okk, op, one, hA⟩ : ∃ p q s, clGo v2 c 0 0 = (p, q, s) := ⟨_, _, _, rfl⟩
    simp only [hA, unitOf] at hu ⊢
    rw [hu] at hsc
    first | refine iteW_dec (fun h1 => ?_) (fun h1 => ?_) | refine iteW_of (fun h1 => ?_) (fun h1 => ?_)
    · subst h1
      simp only [cond_true, cond_false] at hsc
      have e : (bif next == 0 then 0 else next) = next := by cases hn0 : next == 0 <;> simp at hn0 ⊢; omega
      rw [e] at hsc
      simp (disch := omega) only [go_sem]
      refine ih2 (i + 1, next) _ _ ⟨by simp only; omega, hsc⟩ (by simp only; omega) (by simp (disch := omega) only [subT, Int.natCast_add, Int.cast_ofNat_Int, go_sem] <;> (repeat' apply And.intro) <;> first | rfl | (congr 1; omega) | assumption) rfl
    · subst h1
      simp only [cond_false] at hsc
      simp (disch := omega) only [go_sem]
      first | refine iteW_dec (fun h2 => ?_) (fun h2 => ?_) | refine iteW_of (fun h2 => ?_) (fun h2 => ?_)
      · rw [if_pos h2] at hsc
        simp only [cond_true] at hsc
        simp (disch := omega) only [go_sem]
        simp only [propGo, hsc] at hgo
        subst hgo
        exact W_retC c97_ok rfl ⟨ho.le, frz_tup (by exact ⟨ho.conv.2, .refl _, trivial⟩)⟩ ⟨rfl, rfl⟩
      · rw [if_neg h2] at hsc
        simp (disch := omega) only [go_sem]
        first | refine guardW_dec (fun h3 => ?_) (fun h3 => ?_) | refine guardW_by (fun h3 => ?_) (fun h3 => ?_)
        · rw [if_pos h3] at hsc
          simp only [cond_false] at hsc
          simp (disch := omega) only [go_sem]
          first | refine iteW_dec (fun h4 => ?_) (fun h4 => ?_) | refine iteW_of (fun h4 => ?_) (fun h4 => ?_)
          · have e : (next == 0) = true := by simpa using h4
            rw [e] at hsc
            simp only [cond_true] at hsc
            simp (disch := omega) only [go_sem]
            refine ih2 (i + 1, one) _ _ ⟨by simp only; omega, hsc⟩ (by simp only; omega) (by simp (disch := omega) only [subT, Int.natCast_add, Int.cast_ofNat_Int, go_sem] <;> (repeat' apply And.intro) <;> first | rfl | (congr 1; omega) | assumption) rfl
          · have e : (next == 0) = false := by simpa using h4
            rw [e] at hsc
            simp only [cond_false] at hsc
            simp (disch := omega) only [go_sem]
            refine ih2 (i + 1, next) _ _ ⟨by simp only; omega, hsc⟩ (by simp only; omega) (by simp (disch := omega) only [subT, Int.natCast_add, Int.cast_ofNat_Int, go_sem] <;> (repeat' apply And.intro) <;> first | rfl | (congr 1; omega) | assumption) rfl
        · rw [if_neg h3] at hsc
          simp only [cond_false] at hsc
          have e : (bif next == 0 then 0 else next) = next := by cases hn0 : next == 0 <;> simp at hn0 ⊢; omega
          rw [e] at hsc
          simp (disch := omega) only [go_sem]
          refine ih2 (i + 1, next) _ _ ⟨by simp only; omega, hsc⟩ (by simp only; omega) (by simp (disch := omega) only [subT, Int.natCast_add, Int.cast_ofNat_Int, go_sem] <;> (repeat' apply And.intro) <;> first | rfl | (congr 1; omega) | assumption) rfl
  · rw [List.drop_of_length_le (by omega)] at hsc
    simp only [scanGo] at hsc
    simp (disch := omega) only [go_sem]
    first | refine iteW_dec (fun hd => ?_) (fun hd => ?_) | refine iteW_of (fun hd => ?_) (fun hd => ?_)
    · have e : (next == 0) = true := by simpa using hd
      simp only [propGo, hsc, e, cond_true] at hgo
      subst hgo
      simp (disch := omega) only [go_sem]
      exact W_retC c97_ok rfl ⟨ho.le, frz_tup (by exact ⟨ho.conv.2, .refl _, trivial⟩)⟩ ⟨rfl, rfl⟩
    · have e : (next == 0) = false := by simpa using hd
      have hfr := scanGo_free (vals := v2) (cls := cls) (i := 0) (next := 0) (.inl rfl)
      rw [hsc] at hfr
      obtain ⟨hf, hin⟩ := hfr.resolve_left hd
      obtain ⟨c, hcm, hnm⟩ := hin.resolve_right hd
      have hlo := hc.2 c hcm next hnm
      have hz := zeros_set hl2 ht2 hlo hf
      simp (disch := omega) only [go_sem]
      refine SRun.callR (l02Set_ok hb (by omega) hl2 hlo hv) ⟨[], rfl, rfl⟩ rfl ?_
      simp (disch := omega) only [List.getD_cons_zero, List.getD_cons_succ, go_sem]
      have ho2 := ho.upd (c' := ints (setT v2 next)) (upd_same _ bv _)
      rw [upd_upd] at ho2
      refine SRun.appL ho2 rfl (by simp [V.cells, V.one]) (by simp [ints]; omega) ?_
      intro r σ4 ho4
      rw [ints_app] at ho4
      simp (disch := omega) only [go_sem]
      refine ih (setT v2 next, list ++ [next], r, σ4) _ _ ⟨by simp only [setT_length]; exact hlv, tri_set ht2 _, by simp; omega, ?_, ho4⟩ (by simp only; omega) (by simp (disch := omega) only [subT, Int.natCast_add, Int.cast_ofNat_Int, go_sem] <;> (repeat' apply And.intro) <;> first | rfl | (congr 1; omega) | assumption) rfl
      rw [show zeros v2 + 1 = (zeros (setT v2 next) + 1) + 1 by omega] at hgo
      rw [propGo] at hgo
      simp only [hsc, e, cond_false] at hgo
      exact hgo
theorem findZ_at {vals : List Int} {i : Nat} (h1 : 1 ≤ i) (hi : i < vals.length) (h0 : vals.getD i 0 = 0) (hb : ∀ j, 1 ≤ j → j < i → vals.getD j 0 ≠ 0) : findZ (vals.drop 1) 0 = (i : Int) - 1 := by
  have hf : (vals.drop 1).findIdx? (· == 0) = some (i - 1) := by
    rw [List.findIdx?_eq_some_iff_getElem]
    refine ⟨by simp; omega, ?_, fun j hj => ?_⟩
    · have e : 1 + (i - 1) = i := by omega
      have : vals[i] = 0 := by simpa [List.getD, hi] using h0
      have e' : i - 1 + 1 = i := by omega
      simp [e, e', this]
    · have := hb (j + 1) (by omega) (by omega)
      have hj2 : j + 1 < vals.length := by omega
      simp only [List.getD, hj2, List.getElem?_eq_getElem, Option.getD_some] at this
      simpa [Nat.add_comm 1 j] using this
  unfold findZ
  rw [hf]
  simp only; omega
theorem findZ_no {vals : List Int} (hb : ∀ j, 1 ≤ j → j < vals.length → vals.getD j 0 ≠ 0) : findZ (vals.drop 1) 0 = -1 := by
  have hf : (vals.drop 1).findIdx? (· == 0) = none := by
    rw [List.findIdx?_eq_none_iff]
    intro x hx
    obtain ⟨j, hj, rfl⟩ := List.getElem_of_mem hx
    simp only [List.length_drop] at hj
    have := hb (j + 1) (by omega) (by omega)
    have hj2 : j + 1 < vals.length := by omega
    simp only [List.getD, hj2, List.getElem?_eq_getElem, Option.getD_some] at this
    simpa [Nat.add_comm 1 j] using this
  unfold findZ; rw [hf]
theorem src_own {vals : List Int} {bv n cap : Nat} (h : σ bv = some (ints vals)) (hn : n = vals.length) : srcV σ 1 (.msl bv 1 0 n cap) = some (flat (ints vals), (ints vals).length) := by
  subst hn
  simp only [srcV, if_true, h, flat_ints, ints_len, Nat.zero_add, Nat.mul_one, Nat.le_refl, List.drop_zero]
  rw [List.take_of_length_le (by rw [ints_len]; exact Nat.le_refl _)]
end
section
attribute [local irreducible] SRun DS DRun
variable {Γ : St} {σ σ0 : St}
theorem zeroVals_len {vars : Int} (hv : 0 ≤ vars) : ((zeroVals vars).length : Int) = vars + 1 := by simp only [zeroVals, List.length_replicate]; omega
theorem zeroVals_tri (vars : Int) : tri (zeroVals vars) := fun x hx => by have := List.eq_of_mem_replicate hx; omega
theorem zeroVals_flat {vars : Int} {N : Nat} (hN : vars + 1 = N) : (List.replicate N [V.int IntKind.i64 0]).flatten = ints (zeroVals vars) := by
  have : (vars + 1).toNat = N := by omega
  simp [zeroVals, this, ints]
/-- The opposites of literals are set, unless one is true. -/
def negGo : List Int → List Int → Option (List Int)
  | vals, [] => some vals
  | vals, x :: r => bif isT vals x then none else negGo (setT vals (-x)) r
def rupP (vars : Int) (cls : List (List Int)) (c : List Int) : Bool := match negGo (zeroVals vars) c with
  | none => true
  | some v => decide ((propGo cls (zeros v + 1) v []).2.1 ≥ 0)
end
section
attribute [local irreducible] SRun DS DRun
variable {Γ : St} {σ σ0 : St}
/-- RAT: for each clause that has the opposite of the first literal, what the two resolve to is RUP. -/
def ratOf (vars : Int) (cls : List (List Int)) (c : List Int) (l : Int) (d : List Int) : Bool := !(d.contains (-l)) || rupP vars cls (c ++ d.filter fun y => decide (¬ y = -l))
def ratP (vars : Int) (cls : List (List Int)) : List Int → Bool
  | [] => false
  | l :: r => cls.all (ratOf vars cls (l :: r) l)
end
end Go.Proofs.YtlojopaebdnacaaDoor.Lg
/- What is told of the functions that are reached, as far as it is asked here. -/
set_option linter.unusedSimpArgs false
set_option linter.unusedVariables false
namespace Go.Proofs.YtlojopaebdnacaaDoor.Lg
open Go
section
def rankP (x : Int) : Int := if x < 0 then 1 - 2 * x else 2 * x
end
section
/-- Where a literal belongs. -/
def insKR (x : Int) : List Int → Nat
  | [] => 0
  | y :: ys => if rankP y < rankP x then insKR x ys + 1 else 0
def insR (ys : List Int) (x : Int) : List Int := if insKR x ys < ys.length ∧ ys.getD (insKR x ys) 0 = x then ys else ys.take (insKR x ys) ++ [x] ++ ys.drop (insKR x ys)
end
section
theorem isT_not {vals : List Int} {x : Int} (hx : x ≠ 0) (h : isT vals x = true) : isT vals (-x) = false := by
  rw [isT_val hx] at h
  rw [isT_val (by omega), Int.natAbs_neg]
  generalize vals.getD x.natAbs 0 = v at *
  by_cases hn : x < 0
  · rw [if_pos hn] at h; rw [if_neg (by omega)]
    have : v = -1 := by simpa using h
    subst this; rfl
  · rw [if_neg hn] at h; rw [if_pos (by omega)]
    have : v = 1 := by simpa using h
    subst this; rfl
/-- A clause that asks for nothing: it is true, or two of its literals are open. -/
def quiet (w c : List Int) : Prop := (∃ x ∈ c, isT w x = true) ∨ ∃ x ∈ c, ∃ y ∈ c, x ≠ y ∧ isT w (-x) = false ∧ isT w (-y) = false
theorem quiet_go {w : List Int} : ∀ {c : List Int} {one : Int}, (∀ x ∈ c, x ≠ 0) → unitGo w c one = (0, false) → quiet w c ∨ (one ≠ 0 ∧ ∃ x ∈ c, x ≠ one ∧ isT w (-x) = false) := by
  intro c
  induction c with
  | nil => intro one _ h; simp only [unitGo, Prod.mk.injEq] at h; rw [h.1] at h; exact absurd h.2 (by simp)
  | cons x r ih =>
    intro one hne h
    have hne' : ∀ y ∈ r, y ≠ 0 := fun y hy => hne y (by simp [hy])
    have lift : quiet w r → quiet w (x :: r) := by
      rintro (⟨y, hy, h⟩ | ⟨y, hy, z, hz, h⟩)
      · exact .inl ⟨y, by simp [hy], h⟩
      · exact .inr ⟨y, by simp [hy], z, by simp [hz], h⟩
    simp only [unitGo] at h
    cases h1 : isT w x with
    | true => exact .inl (.inl ⟨x, by simp, h1⟩)
    | false =>
      rw [h1] at h
      simp only [cond_false] at h
      cases h2 : (isT w (-x) || x == one) with
      | true =>
        rw [h2] at h
        simp only [cond_true] at h
        rcases ih hne' h with h3 | ⟨h3, y, hy, h4⟩
        · exact .inl (lift h3)
        · exact .inr ⟨h3, y, by simp [hy], h4⟩
      | false =>
        rw [h2] at h
        simp only [cond_false] at h
        simp only [Bool.or_eq_false_iff, beq_eq_false_iff_ne] at h2
        by_cases h3 : one = 0
        · subst h3
          have h4 : unitGo w r x = (0, false) := by simpa using h
          rcases ih hne' h4 with h5 | ⟨h5, y, hy, h6, h7⟩
          · exact .inl (lift h5)
          · exact .inl (.inr ⟨x, by simp, y, by simp [hy], fun e => h6 e.symm, h2.1, h7⟩)
        · exact .inr ⟨h3, x, by simp, h2.2, h2.1⟩
theorem quiet_of {w c : List Int} (hne : ∀ x ∈ c, x ≠ 0) (h : unitGo w c 0 = (0, false)) : quiet w c := (quiet_go hne h).resolve_right fun h => h.1 rfl
theorem scan_zero {vals : List Int} : ∀ {cls : List (List Int)} {i : Nat} {next : Int}, scanGo vals cls i next = (none, 0) → next = 0 ∧ ∀ c ∈ cls, unitGo vals c 0 = (0, false) := by
  intro cls
  induction cls with
  | nil => intro i next h; simp only [scanGo, Prod.mk.injEq] at h; exact ⟨h.2, fun c hc => by cases hc⟩
  | cons c r ih =>
    intro i next h
    simp only [scanGo] at h
    cases h1 : (unitGo vals c 0).2 with
    | true => rw [h1] at h; cases h
    | false =>
      rw [h1] at h
      simp only [cond_false] at h
      obtain ⟨h2, h3⟩ := ih h
      by_cases h4 : next = 0
      · subst h4
        have h5 : (unitGo vals c 0).1 = 0 := by simpa using h2
        refine ⟨rfl, fun d hd => ?_⟩
        rcases List.mem_cons.1 hd with rfl | hd
        · exact Prod.ext h5 h1
        · exact h3 d hd
      · have : (next == 0) = false := by simpa using h4
        rw [this] at h2
        exact absurd h2 h4
/-- What is known in the first is known in the second. -/
def under (vars : Int) (v w : List Int) : Prop := ∀ x, litOK vars x → isT v x = true → isT w x = true
theorem under.trans {vars : Int} {u v w : List Int} (h1 : under vars u v) (h2 : under vars v w) : under vars u w := fun x hx h => h2 x hx (h1 x hx h)
theorem under_set {vars x : Int} {v w : List Int} (hl : (v.length : Int) = vars + 1) (hx : litOK vars x) (hu : under vars v w) (hw : isT w x = true) : under vars (setT v x) w := by
  intro y hy h
  rw [isT_setT hl hy hx] at h
  split at h
  · rename_i e; rw [e]; exact hw
  · split at h
    · cases h
    · exact hu y hy h
theorem set_over {vars x : Int} {v : List Int} (hl : (v.length : Int) = vars + 1) (hx : litOK vars x) (hf : isT v (-x) = false) : under vars v (setT v x) := by
  intro y hy h
  rw [isT_setT hl hy hx]
  split
  · rfl
  · split
    · rename_i e; subst e; rw [hf] at h; cases h
    · exact h
theorem set_self {vars x : Int} {v : List Int} (hl : (v.length : Int) = vars + 1) (hx : litOK vars x) : isT (setT v x) x = true := by rw [isT_setT hl hx hx, if_pos rfl]
theorem quiet_false {vars : Int} {v w c : List Int} (hc : ∀ x ∈ c, litOK vars x) (hu : under vars v w) (hq : quiet w c) : (unitGo v c 0).2 = false := by
  cases h : (unitGo v c 0).2 with
  | false => rfl
  | true =>
    exfalso
    have h2 := (unit_false (fun x hx => (hc x hx).1) h).2
    rcases hq with ⟨x, hx, h3⟩ | ⟨x, hx, y, hy, _, h3, _⟩
    · have h4 := hu _ (litOK_neg (hc x hx)) (h2 x hx)
      rw [isT_not (hc x hx).1 h3] at h4; cases h4
    · have h4 := hu _ (litOK_neg (hc x hx)) (h2 x hx)
      rw [h3] at h4; cases h4
theorem quiet_unit {vars : Int} {v w c : List Int} (hc : ∀ x ∈ c, litOK vars x) (hu : under vars v w) (hq : quiet w c) (h : (unitGo v c 0).1 ≠ 0) : isT w (unitGo v c 0).1 = true := by
  have h2 := (unit_one (fun x hx => (hc x hx).1) h).2
  have neg : ∀ x ∈ c, isT v (-x) = true → isT w x = false ∧ ¬ isT w (-x) = false := fun x hx h3 => by
    have h4 := hu _ (litOK_neg (hc x hx)) h3
    refine ⟨?_, by rw [h4]; simp⟩
    have := isT_not (litOK_neg (hc x hx)).1 h4
    rwa [Int.neg_neg] at this
  rcases hq with ⟨x, hx, h3⟩ | ⟨x, hx, y, hy, hxy, h3, h4⟩
  · rcases h2 x hx with h5 | h5
    · rw [(neg x hx h5).1] at h3; cases h3
    · rw [← h5]; exact h3
  · rcases h2 x hx with h5 | h5
    · exact absurd h3 (neg x hx h5).2
    · rcases h2 y hy with h6 | h6
      · exact absurd h4 (neg y hy h6).2
      · exact absurd (h5.trans h6.symm) hxy
theorem propGo_quiet {vars : Int} {cls : List (List Int)} (hc : ClsOK vars cls) : ∀ (f : Nat) (vals list : List Int), zeros vals < f → (vals.length : Int) = vars + 1 → tri vals → (propGo cls f vals list).2.1 < 0 → ∀ c ∈ cls, quiet (propGo cls f vals list).2.2 c := by
  intro f
  induction f with
  | zero => intro vals list h; omega
  | succ f ih =>
    intro vals list hz hl ht
    have hfr := scanGo_free (vals := vals) (cls := cls) (i := 0) (next := 0) (.inl rfl)
    have hs := scan_zero (vals := vals) (cls := cls) (i := 0) (next := 0)
    simp only [propGo]
    generalize scanGo vals cls 0 0 = q at hfr hs
    obtain ⟨o, next⟩ := q
    cases o with
    | some i => intro h; simp only at h; omega
    | none =>
      simp only
      cases hd : next == 0 with
      | true =>
        intro _ c hcm
        have : next = 0 := by simpa using hd
        subst this
        exact quiet_of (fun x hx => (hc.2 c hcm x hx).1) ((hs rfl).2 c hcm)
      | false =>
        simp only [cond_false]
        have hne : next ≠ 0 := by simpa using hd
        obtain ⟨hf, hin⟩ := hfr.resolve_left hne
        obtain ⟨c0, hcm0, hnm⟩ := hin.resolve_right hne
        have hlo := hc.2 c0 hcm0 next hnm
        have hzs := zeros_set hl ht hlo hf
        exact ih (setT vals next) (list ++ [next]) (by omega) (by rw [setT_length]; exact hl) (tri_set ht _)
theorem propGo_least {vars : Int} {cls : List (List Int)} {w : List Int} (hc : ClsOK vars cls) (hq : ∀ c ∈ cls, quiet w c) : ∀ (f : Nat) (vals list : List Int), zeros vals < f → (vals.length : Int) = vars + 1 → tri vals → under vars vals w → (propGo cls f vals list).2.1 < 0 ∧ under vars (propGo cls f vals list).2.2 w := by
  intro f
  induction f with
  | zero => intro vals list h; omega
  | succ f ih =>
    intro vals list hz hl ht hu
    have hfr := scanGo_free (vals := vals) (cls := cls) (i := 0) (next := 0) (.inl rfl)
    have hs1 := fun j => scan_some (vals := vals) (cls := cls) (i := 0) (next := 0) (j := j)
    have hs2 := scan_none (vals := vals) (cls := cls) (i := 0) (next := 0)
    simp only [propGo]
    generalize scanGo vals cls 0 0 = q at hfr hs1 hs2
    obtain ⟨o, next⟩ := q
    cases o with
    | some i =>
      exfalso
      obtain ⟨c, hcm, h1⟩ := hs1 i rfl
      rw [quiet_false (hc.2 c hcm) hu (hq c hcm)] at h1; cases h1
    | none =>
      simp only
      cases hd : next == 0 with
      | true => exact ⟨by simp only [cond_true]; omega, hu⟩
      | false =>
        simp only [cond_false]
        have hne : next ≠ 0 := by simpa using hd
        obtain ⟨hf, hin⟩ := hfr.resolve_left hne
        obtain ⟨c0, hcm0, hnm⟩ := hin.resolve_right hne
        have hlo := hc.2 c0 hcm0 next hnm
        have hzs := zeros_set hl ht hlo hf
        obtain ⟨c, hcm, h1⟩ := ((hs2 rfl).2).resolve_left hne
        simp only at h1
        have h2 := quiet_unit (hc.2 c hcm) hu (hq c hcm) (by rw [h1]; exact hne)
        rw [h1] at h2
        exact ih (setT vals next) (list ++ [next]) (by omega) (by rw [setT_length]; exact hl) (tri_set ht _) (under_set hl hlo hu h2)
def zero0 (v : List Int) : Prop := v.getD 0 0 = 0
theorem zero0_set {vars x : Int} {v : List Int} (hx : litOK vars x) (h : zero0 v) : zero0 (setT v x) := by
  have : x.natAbs ≠ 0 := by have := hx.1; omega
  unfold zero0 at *
  rw [setT_eq, List.getD_eq_getElem?_getD, List.getElem?_set_ne this, ← List.getD_eq_getElem?_getD]; exact h
end
section
/-- A clause in order. -/
def ordP (c : List Int) : List Int := c.foldl insR []
/-- The last clause of the same literals, of the first so many. -/
def findC (cls : List (List Int)) (c : List Int) : Nat → Option Nat
  | 0 => none
  | k + 1 => if ordP (cls.getD k []) = ordP c then some k else findC cls c k
/-- What the steps of a proof come to: a place and a code. -/
def checkP (vars : Int) : List (Bool × List Int) → List (List Int) → Nat → Nat × Int
  | [], _, n => (n, 3)
  | s :: r, cls, n => bif s.1 then (match findC cls s.2 cls.length with | none => (n, 6) | some k => checkP vars r (cls.take k ++ cls.drop (k + 1)) (n + 1))
    else bif !rupP vars cls s.2 && !ratP vars cls s.2 then (n, 8) else bif s.2.length == 0 then (n, 0) else checkP vars r (cls ++ [s.2]) (n + 1)
/-- Clauses that are no wider than twelve. -/
def Cl (vars : Int) (cls : List (List Int)) : Prop := ∀ c ∈ cls, c.length ≤ 12 ∧ ∀ x ∈ c, litOK vars x
theorem Cl.ok {vars : Int} {cls : List (List Int)} (h : Cl vars cls) (hl : cls.length ≤ 1000000) : ClsOK vars cls := ⟨⟨hl, fun c hc => by have := (h c hc).1; omega⟩, fun c hc => (h c hc).2⟩
theorem Cl.app {vars : Int} {cls more : List (List Int)} (h : Cl vars cls) (h2 : Cl vars more) : Cl vars (cls ++ more) := fun c hc => (List.mem_append.1 hc).elim (h c) (h2 c)
theorem Cl.one {vars : Int} {c : List Int} (h : c.length ≤ 12) (h2 : ∀ x ∈ c, litOK vars x) : Cl vars [c] := fun d hd => by rw [List.mem_singleton.1 hd]; exact ⟨h, h2⟩
theorem model_some {vars : Int} {cls : List (List Int)} {bs : List Bool} (hv : 0 ≤ vars) (hc : ClsOK vars cls) (he : evalB cls bs = true) : modelP vars cls ≠ none := fun h => by
  have := (modelP_spec hv hc).1 h bs
  rw [he] at this; cases this
def setAll (vals list : List Int) : List Int := list.foldl setT vals
theorem setAll_snoc (vals list : List Int) (x : Int) : setAll vals (list ++ [x]) = setT (setAll vals list) x := by simp [setAll]
def negC (chosen : List Int) : List Int := chosen.map fun x => -x
/-- The step of a leaf or behind two. -/
def finP (chosen : List Int) (steps : List (List Int)) : List (List Int) × Int := bif decide (steps.length = 200) || decide (12 < chosen.length) then (steps, 7) else (steps ++ [negC chosen], 0)
/-- From choices on: the steps so far and a code. -/
def refP (vars : Int) (cls : List (List Int)) : Nat → List Int → List (List Int) → List (List Int) × Int
  | 0, _, steps => (steps, 6)
  | f + 1, chosen, steps =>
    bif decide ((propGo cls (zeros (setAll (zeroVals vars) chosen) + 1) (setAll (zeroVals vars) chosen) []).2.1 ≥ 0) then finP chosen steps else
    bif findZ ((propGo cls (zeros (setAll (zeroVals vars) chosen) + 1) (setAll (zeroVals vars) chosen) []).2.2.drop 1) 0 + 1 == 0 then (steps, 6) else
    bif (refP vars cls f (chosen ++ [-(findZ ((propGo cls (zeros (setAll (zeroVals vars) chosen) + 1) (setAll (zeroVals vars) chosen) []).2.2.drop 1) 0 + 1)]) steps).2 == 0 then
      bif (refP vars cls f (chosen ++ [findZ ((propGo cls (zeros (setAll (zeroVals vars) chosen) + 1) (setAll (zeroVals vars) chosen) []).2.2.drop 1) 0 + 1]) (refP vars cls f (chosen ++ [-(findZ ((propGo cls (zeros (setAll (zeroVals vars) chosen) + 1) (setAll (zeroVals vars) chosen) []).2.2.drop 1) 0 + 1)]) steps).1).2 == 0 then
        finP chosen (refP vars cls f (chosen ++ [findZ ((propGo cls (zeros (setAll (zeroVals vars) chosen) + 1) (setAll (zeroVals vars) chosen) []).2.2.drop 1) 0 + 1]) (refP vars cls f (chosen ++ [-(findZ ((propGo cls (zeros (setAll (zeroVals vars) chosen) + 1) (setAll (zeroVals vars) chosen) []).2.2.drop 1) 0 + 1)]) steps).1).1
      else refP vars cls f (chosen ++ [findZ ((propGo cls (zeros (setAll (zeroVals vars) chosen) + 1) (setAll (zeroVals vars) chosen) []).2.2.drop 1) 0 + 1]) (refP vars cls f (chosen ++ [-(findZ ((propGo cls (zeros (setAll (zeroVals vars) chosen) + 1) (setAll (zeroVals vars) chosen) []).2.2.drop 1) 0 + 1)]) steps).1
    else refP vars cls f (chosen ++ [-(findZ ((propGo cls (zeros (setAll (zeroVals vars) chosen) + 1) (setAll (zeroVals vars) chosen) []).2.2.drop 1) 0 + 1)]) steps
theorem setAll_keeps {vars : Int} : ∀ {list vals : List Int}, (vals.length : Int) = vars + 1 → tri vals → zero0 vals → (∀ x ∈ list, litOK vars x) → ((setAll vals list).length : Int) = vars + 1 ∧ tri (setAll vals list) ∧ zero0 (setAll vals list) := by
  intro list
  induction list with
  | nil => intro vals hl ht h0 _; exact ⟨hl, ht, h0⟩
  | cons x r ih => intro vals hl ht h0 hx; exact ih (by rw [setT_length]; exact hl) (tri_set ht _) (zero0_set (hx x (by simp)) h0) fun y hy => hx y (by simp [hy])
theorem zero0_zero (vars : Int) (hv : 0 ≤ vars) : zero0 (zeroVals vars) := by
  unfold zero0 zeroVals
  rw [List.getD_eq_getElem?_getD, List.getElem?_replicate]
  split <;> rfl
theorem negGo_set {vars : Int} : ∀ {list vals v : List Int}, (vals.length : Int) = vars + 1 → (∀ x ∈ list, litOK vars x) → negGo vals (negC list) = some v → v = setAll vals list ∧ under vars vals v ∧ ∀ x ∈ list, isT v x = true := by
  intro list
  induction list with
  | nil => intro vals v _ _ h; simp only [negC, List.map_nil, negGo, Option.some.injEq] at h; subst h; exact ⟨rfl, fun x _ h => h, fun x hx => by cases hx⟩
  | cons x r ih =>
    intro vals v hl hx h
    have hx0 := hx x (by simp)
    simp only [negC, List.map_cons, negGo, Int.neg_neg] at h
    cases h1 : isT vals (-x) with
    | true => rw [h1] at h; cases h
    | false =>
      rw [h1] at h
      simp only [cond_false] at h
      obtain ⟨e, h2, h3⟩ := ih (by rw [setT_length]; exact hl) (fun y hy => hx y (by simp [hy])) h
      refine ⟨e, (set_over hl hx0 h1).trans h2, fun y hy => ?_⟩
      rcases List.mem_cons.1 hy with rfl | hy
      · exact h2 y hx0 (set_self hl hx0)
      · exact h3 y hy
theorem rup_of {vars : Int} {cls : List (List Int)} {chosen : List Int} (hv : 0 ≤ vars) (hx : ∀ x ∈ chosen, litOK vars x)
    (h : (∀ x ∈ chosen, isT (setAll (zeroVals vars) chosen) x = true) → 0 ≤ (propGo cls (zeros (setAll (zeroVals vars) chosen) + 1) (setAll (zeroVals vars) chosen) []).2.1) : rupP vars cls (negC chosen) = true := by
  unfold rupP
  cases hn : negGo (zeroVals vars) (negC chosen) with
  | none => rfl
  | some v =>
    obtain ⟨e, _, h2⟩ := negGo_set (zeroVals_len hv) hx hn
    subst e
    exact decide_eq_true (h h2)
theorem rup_leaf {vars : Int} {f cls : List (List Int)} {s : List Int} (hf : ClsOK vars f) (hc : ClsOK vars cls) (hsub : ∀ c ∈ f, c ∈ cls) (hl : (s.length : Int) = vars + 1) (ht : tri s) (h : 0 ≤ (propGo f (zeros s + 1) s []).2.1) : 0 ≤ (propGo cls (zeros s + 1) s []).2.1 := by
  by_cases hn : (propGo cls (zeros s + 1) s []).2.1 < 0
  · have hq := propGo_quiet hc (zeros s + 1) s [] (by omega) hl ht hn
    have hu := (propGo_spec hc (zeros s + 1) s [] (by omega) hl ht).1
    have := (propGo_least hf (fun c hc => hq c (hsub c hc)) (zeros s + 1) s [] (by omega) hl ht hu).1
    omega
  · omega
theorem quiet_last {vars : Int} {w ch : List Int} {y : Int} (hx : ∀ x ∈ ch, litOK vars x) (h : ∀ x ∈ ch, isT w x = true) (hq : quiet w (negC ch ++ [y])) : isT w y = true := by
  have neg : ∀ z ∈ negC ch, isT w z = false ∧ isT w (-z) = true := fun z hz => by
    obtain ⟨x, hxm, rfl⟩ := List.mem_map.1 hz
    exact ⟨isT_not (hx x hxm).1 (h x hxm), by rw [Int.neg_neg]; exact h x hxm⟩
  rcases hq with ⟨z, hz, h1⟩ | ⟨z, hz, u, hu, hzu, h1, h2⟩
  · rcases List.mem_append.1 hz with hz | hz
    · rw [(neg z hz).1] at h1; cases h1
    · rw [← List.mem_singleton.1 hz]; exact h1
  · exfalso
    rcases List.mem_append.1 hz with hz | hz
    · rw [(neg z hz).2] at h1; cases h1
    · rcases List.mem_append.1 hu with hu | hu
      · rw [(neg u hu).2] at h2; cases h2
      · exact hzu ((List.mem_singleton.1 hz).trans (List.mem_singleton.1 hu).symm)
theorem rup_node {vars : Int} {cls : List (List Int)} {s ch : List Int} {v : Int} (hc : ClsOK vars cls) (hv : litOK vars v) (hx : ∀ x ∈ ch, litOK vars x) (h1 : negC ch ++ [v] ∈ cls) (h2 : negC ch ++ [-v] ∈ cls) (hl : (s.length : Int) = vars + 1) (ht : tri s) (hs : ∀ x ∈ ch, isT s x = true) : 0 ≤ (propGo cls (zeros s + 1) s []).2.1 := by
  by_cases hn : (propGo cls (zeros s + 1) s []).2.1 < 0
  · have hq := propGo_quiet hc (zeros s + 1) s [] (by omega) hl ht hn
    have hu := (propGo_spec hc (zeros s + 1) s [] (by omega) hl ht).1
    have hw : ∀ x ∈ ch, isT (propGo cls (zeros s + 1) s []).2.2 x = true := fun x hxm => hu x (hx x hxm) (hs x hxm)
    have e1 := quiet_last hx hw (hq _ h1)
    have e2 := quiet_last hx hw (hq _ h2)
    rw [isT_not hv.1 e1] at e2; cases e2
  · omega
/-- A stretch of steps that only adds. -/
def adds (new : List (List Int)) : List (Bool × List Int) := new.map fun c => (false, c)
def passes (vars : Int) (f new : List (List Int)) : Prop := ∀ cls, (∀ c ∈ f, c ∈ cls) → Cl vars cls → cls.length + new.length ≤ 100000 → ∀ rest n, checkP vars (adds new ++ rest) cls n = checkP vars rest (cls ++ new) (n + new.length)
theorem checkP_add {vars : Int} {cls : List (List Int)} {c : List Int} {rest : List (Bool × List Int)} {n : Nat} (h : rupP vars cls c = true) (hc : c.length ≠ 0) : checkP vars ((false, c) :: rest) cls n = checkP vars rest (cls ++ [c]) (n + 1) := by
  have : (c.length == 0) = false := by simpa using hc
  simp only [checkP, h, this, cond_false, Bool.not_true, Bool.false_and]
theorem passes.snoc {vars : Int} {f new : List (List Int)} {c : List Int} (h : passes vars f new) (hn : Cl vars new) (hc : c.length ≠ 0) (hr : ∀ cls, (∀ d ∈ f ++ new, d ∈ cls) → Cl vars cls → cls.length ≤ 100000 → rupP vars cls c = true) : passes vars f (new ++ [c]) := by
  intro cls hsub hcl hl rest n
  rw [List.length_append, List.length_singleton] at hl
  have e : adds (new ++ [c]) ++ rest = adds new ++ ((false, c) :: rest) := by simp [adds]
  rw [e, h cls hsub hcl (by omega), checkP_add (hr _ (fun d hd => ?_) (hcl.app hn) (by simp; omega)) hc, List.append_assoc]
  · simp only [List.length_append, List.length_singleton]; rfl
  · rcases List.mem_append.1 hd with hd | hd
    · exact List.mem_append.2 (.inl (hsub d hd))
    · exact List.mem_append.2 (.inr hd)
theorem passes.app {vars : Int} {f new more : List (List Int)} (h : passes vars f new) (h2 : passes vars f more) (hn : Cl vars new) : passes vars f (new ++ more) := by
  intro cls hsub hcl hl rest n
  rw [List.length_append] at hl
  have e : adds (new ++ more) ++ rest = adds new ++ (adds more ++ rest) := by simp [adds]
  rw [e, h cls hsub hcl (by omega), h2 (cls ++ new) (fun d hd => List.mem_append.2 (.inl (hsub d hd))) (hcl.app hn) (by simp; omega), List.append_assoc]
  simp only [List.length_append]; rw [Nat.add_assoc]
theorem finP_ok {chosen : List Int} {steps out : List (List Int)} (h : finP chosen steps = (out, 0)) : out = steps ++ [negC chosen] ∧ chosen.length ≤ 12 ∧ steps.length ≠ 200 := by
  unfold finP at h
  cases h1 : (decide (steps.length = 200) || decide (12 < chosen.length)) with
  | true => rw [h1] at h; simp at h
  | false =>
    rw [h1] at h
    simp only [cond_false, Prod.mk.injEq] at h
    simp only [Bool.or_eq_false_iff, decide_eq_false_iff_not] at h1
    exact ⟨h.1.symm, by omega, h1.1⟩
theorem negC_snoc (ch : List Int) (x : Int) : negC (ch ++ [x]) = negC ch ++ [-x] := by simp [negC]
theorem negC_lit {vars : Int} {ch : List Int} (h : ∀ x ∈ ch, litOK vars x) : ∀ x ∈ negC ch, litOK vars x := fun x hx => by
  obtain ⟨y, hy, rfl⟩ := List.mem_map.1 hx
  exact litOK_neg (h y hy)
theorem negC_len (ch : List Int) : (negC ch).length = ch.length := by simp [negC]
/-- What a refutation has told goes through the check. -/
theorem refP_check {vars : Int} {f : List (List Int)} (hv : 0 ≤ vars) (hf : ClsOK vars f) : ∀ (fu : Nat) (chosen : List Int) (steps out : List (List Int)), (∀ x ∈ chosen, litOK vars x) → refP vars f fu chosen steps = (out, 0) →
    ∃ new, out = steps ++ new ++ [negC chosen] ∧ chosen.length ≤ 12 ∧ Cl vars new ∧ passes vars f new ∧ ∀ cls, (∀ d ∈ f ++ new, d ∈ cls) → Cl vars cls → cls.length ≤ 100000 → rupP vars cls (negC chosen) = true := by
  intro fu
  induction fu with
  | zero => intro chosen steps out _ h; simp [refP] at h
  | succ fu ih =>
    intro chosen steps out hx h
    obtain ⟨k1, k2, k3⟩ := setAll_keeps (zeroVals_len hv) (zeroVals_tri vars) (zero0_zero vars hv) hx
    have kk := propGo_keeps hf (zeros (setAll (zeroVals vars) chosen) + 1) (setAll (zeroVals vars) chosen) [] k1 k2
    simp only [refP] at h
    have hru := fun cls => rup_of (cls := cls) hv hx
    generalize setAll (zeroVals vars) chosen = s at *
    generalize hR : propGo f (zeros s + 1) s [] = R at *
    obtain ⟨lst, at', w⟩ := R
    simp only at h kk
    cases h1 : decide (at' ≥ 0) with
    | true =>
      rw [h1] at h
      simp only [cond_true] at h
      obtain ⟨e, h2, _⟩ := finP_ok h
      refine ⟨[], (by rw [List.append_nil]; exact e), h2, (fun c (hc : c ∈ []) => (by cases hc)), (fun cls _ _ _ rest n => (by simp [adds])), fun cls hsub hcl hl => hru cls fun _ => ?_⟩
      refine rup_leaf hf (hcl.ok (by omega)) (fun c hc => hsub c (by simp [hc])) k1 k2 ?_
      rw [hR]; exact of_decide_eq_true h1
    | false =>
      rw [h1] at h
      simp only [cond_false] at h
      have hfz := findZ_get (vals := w) (vars := vars) (by omega)
      generalize findZ (w.drop 1) 0 + 1 = v at *
      cases h2 : v == 0 with
      | true => rw [h2] at h; simp at h
      | false =>
        rw [h2] at h
        simp only [cond_false] at h
        have hvl := (hfz (by simpa using h2)).1
        have hx1 : ∀ x ∈ chosen ++ [-v], litOK vars x := fun x hxm => (List.mem_append.1 hxm).elim (hx x) fun h => by rw [List.mem_singleton.1 h]; exact litOK_neg hvl
        have hx2 : ∀ x ∈ chosen ++ [v], litOK vars x := fun x hxm => (List.mem_append.1 hxm).elim (hx x) fun h => by rw [List.mem_singleton.1 h]; exact hvl
        have i1 := ih (chosen ++ [-v]) steps
        generalize refP vars f fu (chosen ++ [-v]) steps = A at h i1
        obtain ⟨s1, c1⟩ := A
        simp only at h
        cases h3 : c1 == 0 with
        | false => rw [h3] at h; simp only [cond_false, Prod.mk.injEq] at h; rw [h.2] at h3; cases h3
        | true =>
          rw [h3] at h
          simp only [cond_true] at h
          have i2 := ih (chosen ++ [v]) s1
          generalize refP vars f fu (chosen ++ [v]) s1 = B at h i2
          obtain ⟨s2, c2⟩ := B
          simp only at h
          cases h4 : c2 == 0 with
          | false => rw [h4] at h; simp only [cond_false, Prod.mk.injEq] at h; rw [h.2] at h4; cases h4
          | true =>
            rw [h4] at h
            simp only [cond_true] at h
            have e1 : c1 = 0 := by simpa using h3
            have e2 : c2 = 0 := by simpa using h4
            subst e1 e2
            obtain ⟨n1, o1, w1, l1, p1, r1⟩ := i1 s1 hx1 rfl
            obtain ⟨n2, o2, w2, l2, p2, r2⟩ := i2 s2 hx2 rfl
            obtain ⟨e, h5, _⟩ := finP_ok h
            have ca : Cl vars [negC (chosen ++ [-v])] := Cl.one (by rw [negC_len]; exact w1) (negC_lit hx1)
            have cb : Cl vars [negC (chosen ++ [v])] := Cl.one (by rw [negC_len]; exact w2) (negC_lit hx2)
            have pa := p1.snoc (c := negC (chosen ++ [-v])) l1 (by rw [negC_len]; simp) fun cls hsub => r1 cls hsub
            have pb := p2.snoc (c := negC (chosen ++ [v])) l2 (by rw [negC_len]; simp) fun cls hsub => r2 cls hsub
            refine ⟨(n1 ++ [negC (chosen ++ [-v])]) ++ (n2 ++ [negC (chosen ++ [v])]), ?_, h5, (l1.app ca).app (l2.app cb), pa.app pb (l1.app ca), fun cls hsub hcl hl => hru cls fun hs => ?_⟩
            · rw [e, o2, o1]; simp only [List.append_assoc]
            · refine rup_node (v := v) (ch := chosen) (hcl.ok (by omega)) hvl hx (hsub _ ?_) (hsub _ ?_) k1 k2 hs
              · rw [negC_snoc, Int.neg_neg]; simp
              · rw [negC_snoc chosen v]; simp
theorem refP_proof {vars : Int} {f out : List (List Int)} {fu : Nat} (hv : 0 ≤ vars) (hf : Cl vars f) (hl : f.length ≤ 1000) (h : refP vars f fu [] [] = (out, 0)) (ho : out.length ≤ 1000) : 1 ≤ out.length ∧ checkP vars (adds out) f 0 = (out.length - 1, 0) ∧ Cl vars out := by
  obtain ⟨new, e, _, hn, hp, hr⟩ := refP_check hv (hf.ok (by omega)) fu [] [] out (fun x hx => by cases hx) h
  rw [List.nil_append] at e
  subst e
  have e1 : negC [] = [] := rfl
  rw [e1] at hr ⊢
  rw [List.length_append, List.length_singleton] at ho ⊢
  have ha : adds (new ++ [[]]) = adds new ++ [(false, [])] := by simp [adds]
  refine ⟨by omega, ?_, hn.app (Cl.one (by simp) fun x hx => by cases hx)⟩
  rw [ha, hp f (fun c hc => hc) hf (by omega)]
  have h1 := hr (f ++ new) (fun d hd => hd) (hf.app hn) (by simp; omega)
  simp [checkP, h1]
/-- A refutation that finds a model. -/
theorem refP_model {vars : Int} {f : List (List Int)} (hv : 0 ≤ vars) (hf : ClsOK vars f) : ∀ (fu : Nat) (chosen : List Int) (steps : List (List Int)), (∀ x ∈ chosen, litOK vars x) → zeros (setAll (zeroVals vars) chosen) < fu → ((refP vars f fu chosen steps).2 = 0 ∨ (refP vars f fu chosen steps).2 = 7 ∨ ((refP vars f fu chosen steps).2 = 6 ∧ modelP vars f ≠ none)) ∧ ((refP vars f fu chosen steps).1.length ≤ 200 ∨ 200 < steps.length) := by
  intro fu
  induction fu with
  | zero => intro chosen steps _ h; omega
  | succ fu ih =>
    intro chosen steps hx hz
    obtain ⟨k1, k2, k3⟩ := setAll_keeps (zeroVals_len hv) (zeroVals_tri vars) (zero0_zero vars hv) hx
    have kk := propGo_keeps hf (zeros (setAll (zeroVals vars) chosen) + 1) (setAll (zeroVals vars) chosen) [] k1 k2
    have sp := propGo_spec hf (zeros (setAll (zeroVals vars) chosen) + 1) (setAll (zeroVals vars) chosen) [] (by omega) k1 k2
    have fin : ∀ st : List (List Int), ((finP chosen st).2 = 0 ∨ (finP chosen st).2 = 7 ∨ ((finP chosen st).2 = 6 ∧ modelP vars f ≠ none)) ∧ ((finP chosen st).1.length ≤ 200 ∨ 200 < st.length) := fun st => by
      unfold finP
      cases h1 : (decide (st.length = 200) || decide (12 < chosen.length)) with
      | true => exact ⟨.inr (.inl rfl), by simp only [cond_true]; omega⟩
      | false =>
        simp only [Bool.or_eq_false_iff, decide_eq_false_iff_not] at h1
        exact ⟨.inl rfl, by simp only [cond_false, List.length_append, List.length_singleton]; omega⟩
    have zs : ∀ x, litOK vars x → free (setAll (zeroVals vars) chosen) x → zeros (setAll (zeroVals vars) (chosen ++ [x])) < fu := fun x hx hfr => by
      rw [setAll_snoc]
      have := zeros_set k1 k2 hx hfr
      omega
    simp only [refP]
    generalize setAll (zeroVals vars) chosen = s at *
    generalize propGo f (zeros s + 1) s [] = R at *
    obtain ⟨lst, at', w⟩ := R
    simp only at kk sp ⊢
    cases h1 : decide (at' ≥ 0) with
    | true => exact fin steps
    | false =>
      simp only [cond_false]
      have hlt : at' < 0 := by have := of_decide_eq_false h1; omega
      have hfz := findZ_get (vals := w) (vars := vars) (by omega)
      have htot := findZ_total (vars := vars) (vals := w) (by omega) kk.2.1
      generalize findZ (w.drop 1) 0 + 1 = v at *
      cases h2 : v == 0 with
      | true =>
        have ht := htot (by simpa using h2)
        refine ⟨.inr (.inr ⟨rfl, model_some (bs := valsB w) hv hf ?_⟩), by simp only [cond_true]; omega⟩
        unfold evalB
        rw [List.all_eq_true]
        intro c hc
        obtain ⟨x, hxm, hxt⟩ := unit_total ht (hf.2 c hc) (sp.2.2 hlt c hc)
        rw [List.any_eq_true]
        exact ⟨x, hxm, by rw [litV_valsB (by omega) ht (hf.2 c hc x hxm)]; exact hxt⟩
      | false =>
        simp only [cond_false]
        obtain ⟨hvl, _, hfr1, hfr2⟩ := hfz (by simpa using h2)
        have down : ∀ x, litOK vars x → free w x → free s x := fun x hx h => by
          refine ⟨?_, ?_⟩
          · cases e : isT s x with
            | false => rfl
            | true => have := sp.1 x hx e; rw [h.1] at this; cases this
          · cases e : isT s (-x) with
            | false => rfl
            | true => have := sp.1 (-x) (litOK_neg hx) e; rw [h.2] at this; cases this
        have hx1 : ∀ x ∈ chosen ++ [-v], litOK vars x := fun x hxm => (List.mem_append.1 hxm).elim (hx x) fun h => by rw [List.mem_singleton.1 h]; exact litOK_neg hvl
        have hx2 : ∀ x ∈ chosen ++ [v], litOK vars x := fun x hxm => (List.mem_append.1 hxm).elim (hx x) fun h => by rw [List.mem_singleton.1 h]; exact hvl
        have i1 := ih (chosen ++ [-v]) steps hx1 (zs _ (litOK_neg hvl) (down _ (litOK_neg hvl) hfr2))
        generalize refP vars f fu (chosen ++ [-v]) steps = A at i1 ⊢
        obtain ⟨s1, c1⟩ := A
        simp only at i1 ⊢
        cases h3 : c1 == 0 with
        | false => exact i1
        | true =>
          simp only [cond_true]
          have i2 := ih (chosen ++ [v]) s1 hx2 (zs _ hvl (down _ hvl hfr1))
          generalize refP vars f fu (chosen ++ [v]) s1 = B at i2 ⊢
          obtain ⟨s2, c2⟩ := B
          simp only at i2 ⊢
          cases h4 : c2 == 0 with
          | false => exact ⟨i2.1, by simp only [cond_false]; omega⟩
          | true =>
            simp only [cond_true]
            exact ⟨(fin s2).1, by have := (fin s2).2; omega⟩
end
section
attribute [local irreducible] SRun DS DRun
variable {Γ : St} {σ σ0 : St}
/-- What is owned beside what is not needed any more. -/
theorem ownL_less {σ1 s : St} {es : Nat} {xs : List V} {q : V} (h : OwnL σ1 es xs q s) (hle : ∀ b c, σ b = some c → σ1 b = some c) : ∃ s2, (∀ b c, s2 b = some c → s b = some c) ∧ OwnL σ es xs q s2 := by
  rcases h.1 with ⟨hc, hl, rfl, es', rfl⟩ | ⟨b2, cap, hb, rfl, rfl, h4⟩
  · exact ⟨σ, hle, .inl ⟨hc, hl, rfl, es', rfl⟩, h.2⟩
  · have hb2 : σ b2 = none := by
      cases e : σ b2 with
      | none => rfl
      | some c => rw [hle _ _ e] at hb; cases hb
    refine ⟨upd σ b2 (flat xs), fun b c hbc => ?_, .inr ⟨b2, cap, hb2, rfl, rfl, h4⟩, h.2⟩
    by_cases e : b = b2
    · subst e; rw [upd_same] at hbc ⊢; exact hbc
    · rw [upd_ne _ _ e] at hbc ⊢; exact hle _ _ hbc
def stepV (s : Bool × List Int) : V := .agg [.bool s.1, .isl false 1 (ints s.2)]
def stepsV (xs : List (Bool × List Int)) : List V := xs.map stepV
theorem stepsV_len (xs : List (Bool × List Int)) : (stepsV xs).length = xs.length := by simp [stepsV]
theorem stepsV_ok (xs : List (Bool × List Int)) : ∀ y ∈ stepsV xs, y.cells.length = 2 ∧ ∀ c ∈ y.cells, c.one = true := by
  intro y hy; obtain ⟨s, _, rfl⟩ := List.mem_map.1 hy; simp [stepV, V.cells, V.one]
theorem steps_app (xs : List (Bool × List Int)) (s : Bool × List Int) : stepsV xs ++ [stepV s] = stepsV (xs ++ [s]) := by simp [stepsV]
theorem adds_app (st : List (List Int)) (c : List Int) : adds (st ++ [c]) = adds st ++ [(false, c)] := by simp [adds]
theorem adds_len (st : List (List Int)) : (adds st).length = st.length := by simp [adds]
end
section
attribute [local irreducible] SRun DS DRun
variable {Γ : St} {σ σ0 : St}
theorem neg1_ok (x : Int) : ∀ y ∈ [V.int .i64 x], y.cells.length = 1 ∧ ∀ c ∈ y.cells, c.one = true := by
  intro y hy; rw [List.mem_singleton.1 hy]; simp [V.cells, V.one]
end
end Go.Proofs.YtlojopaebdnacaaDoor.Lg
/- What is told of the functions that are reached, as far as it is asked here. -/
set_option linter.unusedSimpArgs false
set_option linter.unusedVariables false
namespace Go.Proofs.YtlojopaebdnacaaDoor.Lg
open Go
section
attribute [local irreducible] SRun DS DRun
variable {Γ : St} {σ σ0 : St}
/-- A box with the steps so far, over what is beside. -/
def BoxO (σ0 : St) (F : V → List V) (st : List (Bool × List Int)) (rb : Nat) (σ : St) : Prop := ∃ q, OwnL (upd σ0 rb (F q)) 2 (stepsV st) q σ
theorem BoxO.le {F : V → List V} {st : List (Bool × List Int)} {rb : Nat} (h : BoxO σ0 F st rb σ) : ∀ c x, c ≠ rb → σ0 c = some x → σ c = some x := fun c x hc hx => by
  obtain ⟨q, ho⟩ := h
  exact ho.get (by rw [upd_ne _ _ hc]; exact hx)
theorem BoxO.ext {F : V → List V} {st : List (Bool × List Int)} {rb b : Nat} {z : List V} (h : BoxO σ0 F st rb σ) (hb : σ b = none) : BoxO (upd σ0 b z) F st rb (upd σ b z) ∧ b ≠ rb ∧ ∀ c x, c ≠ rb → σ0 c = some x → upd σ0 b z c = some x := by
  obtain ⟨q, ho⟩ := h
  have e : b ≠ rb := fun e => by subst e; rw [ho.get (upd_same _ _ _)] at hb; cases hb
  refine ⟨⟨q, ?_⟩, e, fun c x hc hx => ?_⟩
  · have := ho.ext (z := z) hb
    rw [upd_comm _ e.symm] at this
    exact this
  · rw [upd_ne]
    · exact hx
    · intro e2; subst e2
      have := ho.get (b := c) (c := x) (by rw [upd_ne _ _ hc]; exact hx)
      rw [hb] at this; cases this
theorem BoxO.upd {F : V → List V} {st : List (Bool × List Int)} {rb b : Nat} {c c' : List V} (h : BoxO σ0 F st rb σ) (hb : σ0 b = some c) (hne : b ≠ rb) : BoxO (Lg.upd σ0 b c') F st rb (Lg.upd σ b c') := by
  obtain ⟨q, ho⟩ := h
  refine ⟨q, ?_⟩
  have := ho.upd (c' := c') (show Lg.upd σ0 rb (F q) b = some c by rw [upd_ne _ _ hne]; exact hb)
  rw [upd_comm _ hne.symm] at this
  exact this
theorem BoxO.less {σs : St} {F : V → List V} {st : List (Bool × List Int)} {rb : Nat} (h : BoxO σs F st rb σ) (hle : ∀ c x, c ≠ rb → σ0 c = some x → σs c = some x) : ∃ σ2, (∀ c x, σ2 c = some x → σ c = some x) ∧ BoxO σ0 F st rb σ2 := by
  obtain ⟨q, ho⟩ := h
  obtain ⟨s2, h1, h2⟩ := ownL_less (σ := Lg.upd σ0 rb (F q)) ho (fun c x hx => by
    by_cases e : c = rb
    · subst e; rw [upd_same] at hx ⊢; exact hx
    · rw [upd_ne _ _ e] at hx ⊢; exact hle c x e hx)
  exact ⟨s2, h1, q, h2⟩
/-- A row of numbers that comes in: written down, or made and beside. -/
def ArgIn (σ0 : St) (rb : Nat) (q : V) (xs : List Int) : Prop := (∃ ex, q = .isl ex 1 (ints xs)) ∨ ∃ b cap, q = .msl b 1 0 xs.length cap ∧ b ≠ rb ∧ σ0 b = some (ints xs) ∧ xs.length ≤ cap
def ArgAt (σ : St) (q : V) (xs : List Int) : Prop := (∃ ex, q = .isl ex 1 (ints xs)) ∨ ∃ b cap, q = .msl b 1 0 xs.length cap ∧ σ b = some (ints xs) ∧ xs.length ≤ cap
theorem ArgIn.at {s : St} {rb : Nat} {q : V} {xs : List Int} (h : ArgIn σ0 rb q xs) (hle : ∀ c x, c ≠ rb → σ0 c = some x → s c = some x) : ArgAt s q xs := by
  rcases h with h | ⟨b, cap, h1, h2, h3, h4⟩
  · exact .inl h
  · exact .inr ⟨b, cap, h1, hle _ _ h2 h3, h4⟩
theorem ArgAt.more {s : St} {q : V} {xs : List Int} (h : ArgAt σ q xs) (hle : ∀ c x, σ c = some x → s c = some x) : ArgAt s q xs := by
  rcases h with h | ⟨b, cap, h1, h3, h4⟩
  · exact .inl h
  · exact .inr ⟨b, cap, h1, hle _ _ h3, h4⟩
theorem ArgAt.src {q : V} {xs : List Int} (h : ArgAt σ q xs) : srcV σ 1 q = some (flat (ints xs), (ints xs).length) := by
  rcases h with ⟨ex, rfl⟩ | ⟨b, cap, rfl, h3, h4⟩
  · simp [srcV]
  · exact src_own h3 rfl
def atQ (q : V) (xs : List Int) (i : Nat) : V := match q with
  | .isl _ _ _ => .iptr [.int .i64 (xs.getD i 0)]
  | .msl b _ _ _ _ => .ptr b i
  | _ => .undef
section
variable {P : Program} {f : FuncId} {n : Nat} {Q : V → St → Prop} {k : List It} {T : Ts} {g : GI} {l : List GI}
theorem stepW_len_arg {s : St} {q : V} {xs : List Int} (h : ArgAt s q xs) : stepW P Γ f n Q (.len (.c q)) g l k T σ = W P Γ f n Q (.ops l :: k) (putT T g.d (.int .i64 xs.length)) σ := by
  rcases h with ⟨ex, rfl⟩ | ⟨b, cap, rfl, h3, h4⟩
  · rw [stepW_len_isl, ints_len]
  · rw [stepW_len_msl]
theorem stepW_iaddr_arg {s : St} {q : V} {xs : List Int} {kk : IntKind} {m : Int} (h : ArgAt s q xs) (h0 : 0 ≤ m) (h1 : m < xs.length) : stepW P Γ f n Q (.iaddr 1 (.c q) (.c (.int kk m))) g l k T σ = W P Γ f n Q (.ops l :: k) (putT T g.d (atQ q xs m.toNat)) σ := by
  rcases h with ⟨ex, rfl⟩ | ⟨b, cap, rfl, h3, h4⟩
  · rw [stepW_iaddr_ints h0 h1]; rfl
  · rw [stepW_iaddr_own h0 h1]; simp [atQ]
theorem stepW_load_arg {q : V} {xs : List Int} {i : Nat} (h : ArgAt σ q xs) (h1 : i < xs.length) : stepW P Γ f n Q (.load false 1 (.c (atQ q xs i))) g l k T σ = W P Γ f n Q (.ops l :: k) (putT T g.d (.int .i64 (xs.getD i 0))) σ := by
  rcases h with ⟨ex, rfl⟩ | ⟨b, cap, rfl, h3, h4⟩
  · simp only [atQ, stepW_loadi1]; rfl
  · simp only [atQ, stepW_load1, h3, ints_get (getD_some 0 h1)]
end
def refC4 (vars : Int) (cls : List (List Int)) (m : Bool) (q : V) : List V := [.int .i64 vars, .isl false 1 (clsV cls), q, .bool m]
theorem setAll_take {vals chosen : List Int} {i : Nat} (h : i < chosen.length) : setAll vals (chosen.take (i + 1)) = setT (setAll vals (chosen.take i)) (chosen.getD i 0) := by
  rw [take_succ 0 h, setAll_snoc]
set_option maxHeartbeats 4000000 in
theorem from_ok {vars : Int} {cls : List (List Int)} (hv : 1 ≤ vars ∧ vars ≤ 40) (hc : ClsOK vars cls) : ∀ (fu : Nat) (σ σ0 : St) (chosen : List Int) (st : List (List Int)) (q : V) (rb : Nat),
    zeros (setAll (zeroVals vars) chosen) < fu → chosen.length + zeros (setAll (zeroVals vars) chosen) ≤ 60 → (∀ x ∈ chosen, litOK vars x) → st.length ≤ 200 → BoxO σ0 (refC4 vars cls false) (adds st) rb σ → ArgIn σ0 rb q chosen →
    ACalls Tryd.prog Γ 85 [.ptr rb 0, q] σ fun r σ' => r = .bool ((refP vars cls fu chosen st).2 == 0) ∧ BoxO σ0 (refC4 vars cls ((refP vars cls fu chosen st).2 == 7)) (adds (refP vars cls fu chosen st).1) rb σ' := by
  intro fu
  induction fu with
  | zero => intro σ σ0 chosen st q rb h; omega
  | succ fu ihf =>
    intro σ σ0 chosen st q rb hz hcl hx hst hr hq
    obtain ⟨N, hN⟩ : ∃ N : Nat, vars + 1 = N := ⟨(vars + 1).toNat, by omega⟩
    have hl0 := zeroVals_len (vars := vars) (by omega)
    obtain ⟨k1, k2, k3⟩ := setAll_keeps hl0 (zeroVals_tri vars) (zero0_zero vars (by omega)) hx
    obtain ⟨m3, m4, m5⟩ := propGo_keeps hc (zeros (setAll (zeroVals vars) chosen) + 1) (setAll (zeroVals vars) chosen) [] k1 k2
    have spx := (propGo_spec hc (zeros (setAll (zeroVals vars) chosen) + 1) (setAll (zeroVals vars) chosen) [] (by omega) k1 k2).1
    have hzx : ∀ x, litOK vars x → free (setAll (zeroVals vars) chosen) x → zeros (setAll (zeroVals vars) (chosen ++ [x])) + 1 = zeros (setAll (zeroVals vars) chosen) := fun x hx hfr => by rw [setAll_snoc]; exact zeros_set k1 k2 hx hfr
    generalize hS : refP vars cls (fu + 1) chosen st = S
    simp only [refP] at hS
    obtain ⟨qs, ho⟩ := id hr
    have g := ho.get (upd_same _ rb _)
    have hA := hq.at hr.le
    refine acalls_W c85_ok rfl ?_
    simp (disch := omega) only [c85, hN, go_sem]
    simp (disch := omega) only [g, refC4, hN, go_sem]
    refine SRun.mkslR (n' := N) (m := N) rfl rfl rfl (Nat.le_refl _) (by omega) (by omega) ?_
    intro b5 hb5
    rw [zeroVals_flat hN]
    have hA5 : ∀ z, ArgAt (upd σ b5 z) q chosen := fun z => hA.more (le_upd hb5)
    simp (disch := omega) only [go_sem]
    refine W_loopC (fun i : Nat => i ≤ chosen.length) (fun i => [(0, .ptr rb 0), (1, q), (5, .msl b5 1 0 N N), (6, .int .i64 (i : Nat))]) (fun i => upd σ b5 (ints (setAll (zeroVals vars) (chosen.take i)))) (fun i => chosen.length - i) 0 (by omega) (by simp (disch := omega) only [subT, Int.natCast_add, Int.cast_ofNat_Int, go_sem] <;> (repeat' apply And.intro) <;> first | rfl | (congr 1; omega) | assumption) (by rfl) ?_
    intro i hi ih
    have hkk := setAll_keeps (list := chosen.take i) hl0 (zeroVals_tri vars) (zero0_zero vars (by omega)) (fun x hxm => hx x (List.mem_of_mem_take hxm))
    simp (disch := omega) only [stepW_len_arg hA, go_sem]
    first | refine iteW_dec (fun h1 => ?_) (fun h1 => ?_) | refine iteW_of (fun h1 => ?_) (fun h1 => ?_)
    · have hxi := hx _ (getD_mem 0 (by omega : i < chosen.length))
      simp (disch := omega) only [stepW_iaddr_arg hA, stepW_load_arg (hA5 _), go_sem]
      refine SRun.callR (l02Set_ok (vars := vars) (upd_same _ _ _) (by omega) hkk.1 hxi (by omega)) ⟨[], rfl, rfl⟩ rfl ?_
      rw [upd_upd, ← setAll_take (by omega)]
      simp (disch := omega) only [go_sem]
      exact ih (i + 1) _ _ (by omega) (by omega) (by simp (disch := omega) only [subT, Int.natCast_add, Int.cast_ofNat_Int, go_sem] <;> (repeat' apply And.intro) <;> first | rfl | (congr 1; omega) | assumption) rfl
    · obtain rfl : i = chosen.length := by omega
      rw [List.take_length]
      have g5 : ∀ z, upd σ b5 z rb = some (refC4 vars cls false qs) := fun z => le_upd hb5 _ _ g
      simp (disch := omega) only [g5, refC4, go_sem]
      refine SRun.callR (l02Run_ok (ex := false) (upd_same _ _ _) (by omega) k1 k2 (by omega) hc) ⟨[], rfl, rfl⟩ rfl ?_
      rw [upd_upd]
      generalize setAll (zeroVals vars) chosen = s at *
      generalize propGo cls (zeros s + 1) s [] = R at *
      obtain ⟨lst, at', w⟩ := R
      dsimp only at *
      simp (disch := omega) only [go_sem]
      obtain ⟨hr5, e5, hle5⟩ := hr.ext (z := ints w) hb5
      have hwl : N = w.length := by omega
      have g5w : upd σ b5 (ints w) b5 = some (ints w) := upd_same _ _ _
      have g5r := g5 (ints w)
      have hA6 := hA5 (ints w)
      clear ih hA5 g5 hr ho g hA
      generalize hσ5 : upd σ b5 (ints w) = s5 at *
      have hσb : upd σ0 b5 (ints w) b5 = some (ints w) := upd_same _ _ _
      generalize hσb' : upd σ0 b5 (ints w) = σb at *
      refine iteW_join (fun T s' => ∃ st' σs, BoxO σs (refC4 vars cls false) (adds st') rb s' ∧ (∀ c x, c ≠ rb → σ0 c = some x → σs c = some x) ∧ st'.length ≤ 200 ∧ finP chosen st' = S ∧ look T 0 = .ptr rb 0 ∧ look T 1 = q) (fun k' key => ?_) ?_
      · first | refine iteW_dec (fun hq1 => ?_) (fun hq1 => ?_) | refine iteW_of (fun hq1 => ?_) (fun hq1 => ?_)
        · have hd : decide (at' ≥ 0) = false := decide_eq_false (by omega)
          rw [hd] at hS
          simp only [cond_false] at hS
          simp (disch := omega) only [go_sem]
          refine W_loopC (fun i : Nat => 1 ≤ i ∧ i ≤ w.length ∧ ∀ j, 1 ≤ j → j < i → w.getD j 0 ≠ 0) (fun i => [(0, .ptr rb 0), (1, q), (5, .msl b5 1 0 N N), (9, .int .i64 (i : Nat))]) (fun _ => s5) (fun i => w.length - i) 1 ⟨by omega, by omega, fun j h1 h2 => by omega⟩ (by simp (disch := omega) only [subT, Int.natCast_add, Int.cast_ofNat_Int, go_sem] <;> (repeat' apply And.intro) <;> first | rfl | (congr 1; omega) | assumption) rfl ?_
          rintro i ⟨hi1, hi2, hnz⟩ ih
          have g5r' := g5r
          simp (disch := omega) only [g5r, refC4, go_sem]
          first | refine guardW_dec (fun hi3 => ?_) (fun hi3 => ?_) | refine guardW_by (fun hi3 => ?_) (fun hi3 => ?_)
          · have hget : (ints w)[i]? = some (.int .i64 (w.getD i 0)) := ints_get (getD_some 0 (by omega))
            simp (disch := omega) only [hget, g5w, go_sem]
            first | refine iteW_dec (fun h0 => ?_) (fun h0 => ?_) | refine iteW_of (fun h0 => ?_) (fun h0 => ?_)
            · simp (disch := omega) only [go_sem]
              refine ih (i + 1) _ _ ⟨by omega, by omega, fun j p1 p2 => ?_⟩ (by omega) (by simp (disch := omega) only [subT, Int.natCast_add, Int.cast_ofNat_Int, go_sem] <;> (repeat' apply And.intro) <;> first | rfl | (congr 1; omega) | assumption) rfl
              by_cases hji : j = i
              · subst hji; exact h0
              · exact hnz j p1 (by omega)
            · have h0' : w.getD i 0 = 0 := by omega
              have hz1 := findZ_at hi1 (by omega) h0' hnz
              have hz2 : findZ (w.drop 1) 0 + 1 = (i : Int) := by omega
              obtain ⟨hlit, _, hf1, hf2⟩ := findZ_get (vars := vars) (vals := w) (by omega) (by omega : findZ (w.drop 1) 0 + 1 ≠ 0)
              rw [hz2] at hlit hf1 hf2 hS
              have e0 : ((i : Int) == 0) = false := by simp; omega
              rw [e0] at hS
              simp only [cond_false] at hS
              have hneg : (0 : Int) - (i : Int) = -(i : Int) := by omega
              have down : ∀ x, litOK vars x → free w x → free s x := fun x hx h => by
                refine ⟨?_, ?_⟩
                · cases e : isT s x with
                  | false => rfl
                  | true => have := spx x hx e; rw [h.1] at this; cases this
                · cases e : isT s (-x) with
                  | false => rfl
                  | true => have := spx (-x) (litOK_neg hx) e; rw [h.2] at this; cases this
              simp (disch := omega) only [g5r, refC4, go_sem]
              refine SRun.appS (OwnL.nil 1 1) hA6.src (ints_ok _) (by simp only [List.length_nil, ints_len]; omega) ?_
              intro r69 σ6 ho6
              rw [List.nil_append] at ho6
              simp (disch := omega) only [hneg, go_sem]
              refine SRun.appL ho6 rfl (neg1_ok _) (by simp only [ints_len, List.length_singleton]; omega) ?_
              intro r73 σ7 ho7
              rw [ints_app] at ho7
              obtain ⟨bm, capm, rfl, hbm, hcapm, hnm, rfl⟩ := ho7.at (by simp [ints])
              rw [flat_ints, ints_len] at *
              have hlx1 : ∀ y ∈ chosen ++ [-(i : Int)], litOK vars y := fun y hy => (List.mem_append.1 hy).elim (hx y) fun h => by rw [List.mem_singleton.1 h]; exact litOK_neg hlit
              have hlx2 : ∀ y ∈ chosen ++ [(i : Int)], litOK vars y := fun y hy => (List.mem_append.1 hy).elim (hx y) fun h => by rw [List.mem_singleton.1 h]; exact hlit
              have hz1' := hzx _ (litOK_neg hlit) (down _ (litOK_neg hlit) hf2)
              have hz2' := hzx _ hlit (down _ hlit hf1)
              obtain ⟨hr6, em, hle6⟩ := hr5.ext (z := ints (chosen ++ [-(i : Int)])) hnm
              have hle56 : ∀ c x, c ≠ rb → σ0 c = some x → upd σb bm (ints (chosen ++ [-(i : Int)])) c = some x := fun c x hc hx => hle6 c x hc (hle5 c x hc hx)
              have hle57 : ∀ c x, c ≠ rb → σ0 c = some x → upd σb bm (ints (chosen ++ [(i : Int)])) c = some x := fun c x hc hx => by
                by_cases e : c = bm
                · subst e
                  have := hr5.le c x hc (hle5 c x hc hx)
                  rw [hnm] at this; cases this
                · rw [upd_ne _ _ e]; exact hle5 c x hc hx
              have hm1 := (refP_model (by omega) hc fu (chosen ++ [-(i : Int)]) st hlx1 (by omega)).2
              simp (disch := omega) only [go_sem]
              refine SRun.callQ (ihf (upd s5 bm (ints (chosen ++ [-(i : Int)]))) (upd σb bm (ints (chosen ++ [-(i : Int)]))) (chosen ++ [-(i : Int)]) st (.msl bm 1 0 (chosen.length + 1) capm) rb (by omega) (by rw [List.length_append, List.length_singleton]; omega) hlx1 hst hr6 (.inr ⟨bm, capm, by simp, em, upd_same _ _ _, hcapm⟩)) ⟨[], rfl, rfl⟩ rfl ?_
              rintro _ s8 ⟨rfl, hr8⟩
              have hm2 := fun h200 => (refP_model (by omega) hc fu (chosen ++ [(i : Int)]) (refP vars cls fu (chosen ++ [-(i : Int)]) st).1 hlx2 (by omega)).2.resolve_right h200
              have ihf2 := fun σ h200 h => ihf σ (upd σb bm (ints (chosen ++ [(i : Int)]))) (chosen ++ [(i : Int)]) (refP vars cls fu (chosen ++ [-(i : Int)]) st).1 (.msl bm 1 0 (chosen.length + 1) capm) rb (by omega) (by rw [List.length_append, List.length_singleton]; omega) hlx2 h200 h (.inr ⟨bm, capm, by simp, em, upd_same _ _ _, by simpa using hcapm⟩)
              generalize refP vars cls fu (chosen ++ [-(i : Int)]) st = A at *
              generalize refP vars cls fu (chosen ++ [(i : Int)]) A.1 = B at *
              by_cases hA0 : A.2 = 0
              · have hA1 : (A.2 == 0) = true := by simpa using hA0
                have hA7 : (A.2 == 7) = false := by rw [hA0]; rfl
                rw [hA1] at hS ⊢
                rw [hA7] at hr8
                simp only [cond_true] at hS
                have gm : s8 bm = some (ints (chosen ++ [-(i : Int)])) := hr8.le bm _ em (upd_same _ _ _)
                have hA8 : ArgAt s8 q chosen := hq.at fun c x hc hx => hr8.le c x hc (hle56 c x hc hx)
                have hset : (chosen ++ [-(i : Int)]).set chosen.length (i : Int) = chosen ++ [(i : Int)] := by simp
                have hcl1 : (ints (chosen ++ [-(i : Int)])).length = chosen.length + 1 := by simp [ints]
                have hr9 := hr8.upd (c' := ints (chosen ++ [(i : Int)])) (upd_same _ _ _) em
                rw [upd_upd] at hr9
                simp (disch := omega) only [stepW_len_arg hA8, gm, ints_set, hset, go_sem]
                refine SRun.callQ (ihf2 _ (by omega) hr9) ⟨[], rfl, rfl⟩ rfl ?_
                rintro _ s10 ⟨rfl, hr10⟩
                have hm3 := hm2 (by omega)
                by_cases hB0 : B.2 = 0
                · have hB1 : (B.2 == 0) = true := by simpa using hB0
                  have hB7 : (B.2 == 7) = false := by rw [hB0]; rfl
                  rw [hB1] at hS ⊢
                  rw [hB7] at hr10
                  simp only [cond_true] at hS
                  simp (disch := omega) only [go_sem]
                  exact key _ _ ⟨B.1, _, hr10, hle57, hm3, hS, rfl, rfl⟩
                · have hB1 : (B.2 == 0) = false := by simpa using hB0
                  rw [hB1] at hS ⊢
                  simp only [cond_false] at hS
                  subst hS
                  simp (disch := omega) only [go_sem]
                  obtain ⟨s9, r1, r2⟩ := hr10.less hle57
                  refine W_retC c85_ok rfl (Conv.drop _ r1) ⟨?_, r2⟩
                  simp only [look, ev, V.bool.injEq, V.int.injEq, V.str.injEq, V.tup.injEq, V.agg.injEq, V.isl.injEq, List.cons.injEq, true_and, and_true, Nat.reduceEqDiff, Nat.reduceAdd, Nat.reduceSub, Nat.reduceMul, Nat.reducePow, Nat.reduceDiv, Nat.reduceMod, Int.reduceToNat, Nat.reduceLeDiff, Nat.reduceLT, Int.reduceEq, Int.reduceLT, Int.reduceLE, Int.reduceGT, Int.reduceGE, Int.reduceNeg, Int.reduceSub, Int.reduceAdd, Int.reduceMul, Int.reducePow, ne_eq, reduceCtorEq, ↓reduceIte]
                  simpa using hB0
              · have hA1 : (A.2 == 0) = false := by simpa using hA0
                rw [hA1] at hS ⊢
                simp only [cond_false] at hS
                subst hS
                simp (disch := omega) only [go_sem]
                obtain ⟨s9, r1, r2⟩ := hr8.less hle56
                refine W_retC c85_ok rfl (Conv.drop _ r1) ⟨?_, r2⟩
                simp only [look, ev, V.bool.injEq, V.int.injEq, V.str.injEq, V.tup.injEq, V.agg.injEq, V.isl.injEq, List.cons.injEq, true_and, and_true, Nat.reduceEqDiff, Nat.reduceAdd, Nat.reduceSub, Nat.reduceMul, Nat.reducePow, Nat.reduceDiv, Nat.reduceMod, Int.reduceToNat, Nat.reduceLeDiff, Nat.reduceLT, Int.reduceEq, Int.reduceLT, Int.reduceLE, Int.reduceGT, Int.reduceGE, Int.reduceNeg, Int.reduceSub, Int.reduceAdd, Int.reduceMul, Int.reducePow, ne_eq, reduceCtorEq, ↓reduceIte]
                simpa using hA0
          · have hz1 := findZ_no (vals := w) fun j p1 p2 => hnz j p1 (by omega)
            rw [hz1] at hS
            have hS' : (st, (6 : Int)) = S := hS
            subst hS'
            simp (disch := omega) only [g5r, refC4, go_sem]
            obtain ⟨s9, r1, r2⟩ := hr5.less hle5
            exact W_retC c85_ok rfl (Conv.drop _ r1) ⟨rfl, r2⟩
        · simp (disch := omega) only [go_sem]
          refine key _ _ ⟨st, σb, hr5, hle5, hst, ?_, rfl, rfl⟩
          have hd : decide (at' ≥ 0) = true := decide_eq_true (by omega)
          rw [hd] at hS
          exact hS
      · clear hz hzx spx k1 k2 k3 m3 m4 m5 hS hr5 hle5 g5w g5r hA6 hσb hkk hwl
        rintro T s' ⟨st', σs, hr2, hle, hst2, hfin, t0, t1⟩
        have hAs : ArgAt s' q chosen := hq.at fun c x hc hx => hr2.le c x hc (hle c x hc hx)
        obtain ⟨q2, ho2⟩ := id hr2
        have g := ho2.get (upd_same _ rb _)
        have out : (decide (st'.length = 200) || decide (12 < chosen.length)) = true → S = (st', 7) := fun h => by
          rw [← hfin]; unfold finP; rw [h]; rfl
        have fin2 : (decide (st'.length = 200) || decide (12 < chosen.length)) = false → S = (st' ++ [negC chosen], 0) := fun h => by
          rw [← hfin]; unfold finP; rw [h]; rfl
        simp (disch := omega) only [t0, t1, go_sem]
        have start : ∀ p : Nat × V × St, (p.1 ≤ chosen.length ∧ ((p.1 < chosen.length ∧ OwnL s' 1 (ints (negC (chosen.take p.1))) p.2.1 p.2.2) ∨ (p.1 = chosen.length ∧ p.2.1 = .isl false 1 (ints (negC chosen)) ∧ p.2.2 = s'))) → True := fun _ _ => trivial
        by_cases hne : chosen = []
        case' pos =>
          refine W_freezeLoop (T' := [(0, .ptr rb 0), (1, q), (11, .isl false 1 (ints (negC chosen))), (12, .int .i64 0)]) (σ' := s') (fun _ _ h => h) (by
            refine ⟨?_, ?_, ?_, ?_, trivial⟩
            · rw [show look ((12, V.int IntKind.i64 0) :: (11, V.isl true 1 []) :: (87, V.isl true 1 []) :: T) 0 = .ptr rb 0 from t0]; exact .refl _
            · rw [show look ((12, V.int IntKind.i64 0) :: (11, V.isl true 1 []) :: (87, V.isl true 1 []) :: T) 1 = q from t1]; exact .refl _
            · rw [hne]; exact .isl true 1 []
            · exact .refl _) ?_
          refine W_loopC (α := Nat × V × St) (fun p => p.1 ≤ chosen.length ∧ ((p.1 < chosen.length ∧ OwnL s' 1 (ints (negC (chosen.take p.1))) p.2.1 p.2.2) ∨ (p.1 = chosen.length ∧ p.2.1 = .isl false 1 (ints (negC chosen)) ∧ p.2.2 = s'))) (fun p => [(0, .ptr rb 0), (1, q), (11, p.2.1), (12, .int .i64 (p.1 : Nat))]) (fun p => p.2.2) (fun p => chosen.length - p.1) (0, .isl false 1 (ints (negC chosen)), s') ⟨by simp, .inr ⟨by rw [hne]; rfl, rfl, rfl⟩⟩ (by simp (disch := omega) only [subT, Int.natCast_add, Int.cast_ofNat_Int, go_sem] <;> (repeat' apply And.intro) <;> first | rfl | (congr 1; omega) | assumption) rfl ?_
        case' neg =>
          refine W_loopC (α := Nat × V × St) (fun p => p.1 ≤ chosen.length ∧ ((p.1 < chosen.length ∧ OwnL s' 1 (ints (negC (chosen.take p.1))) p.2.1 p.2.2) ∨ (p.1 = chosen.length ∧ p.2.1 = .isl false 1 (ints (negC chosen)) ∧ p.2.2 = s'))) (fun p => [(0, .ptr rb 0), (1, q), (11, p.2.1), (12, .int .i64 (p.1 : Nat))]) (fun p => p.2.2) (fun p => chosen.length - p.1) (0, .isl true 1 [], s') ⟨by simp, .inl ⟨by have := List.length_pos_iff.2 hne; simpa using this, OwnL.nil 1 1⟩⟩ (by simp (disch := omega) only [subT, Int.natCast_add, Int.cast_ofNat_Int, t0, t1, go_sem] <;> (repeat' apply And.intro) <;> first | rfl | (congr 1; omega) | assumption) rfl ?_
        all_goals
          rintro ⟨i, r11, s6⟩ ⟨hi, hcase⟩ ih
          dsimp only at hi hcase ih
          rcases hcase with ⟨hlt, ho6⟩ | ⟨rfl, rfl, rfl⟩
          · have hlen6 : (negC (chosen.take i)).length = i := by rw [negC_len, List.length_take]; omega
            have hA6 := hAs.more ho6.le
            have d1 : decide ((i : Int) < (chosen.length : Int)) = true := decide_eq_true (by omega)
            have hxm := hx _ (getD_mem 0 (by omega : i < chosen.length))
            have hneg : (0 : Int) - chosen.getD i 0 = - chosen.getD i 0 := by omega
            have hnx2 := hxm.2
            simp (disch := omega) only [stepW_len_arg hA6, d1, stepW_iaddr_arg hA6, stepW_load_arg hA6, hneg, go_sem]
            refine SRun.appL ho6 rfl (neg1_ok _) (by rw [ints_len, hlen6]; simp only [List.length_singleton]; omega) ?_
            intro q7 s7 ho7
            have hap : ints (negC (chosen.take i)) ++ [V.int .i64 (-chosen.getD i 0)] = ints (negC (chosen.take (i + 1))) := by
              rw [take_succ 0 (by omega)]; simp [ints, negC]
            rw [hap] at ho7
            simp (disch := omega) only [go_sem]
            by_cases hl7 : i + 1 < chosen.length
            · refine ih (i + 1, q7, s7) _ _ ⟨by simp only; omega, .inl ⟨hl7, ho7⟩⟩ (by simp only; omega) (by simp (disch := omega) only [subT, Int.natCast_add, Int.cast_ofNat_Int, go_sem] <;> (repeat' apply And.intro) <;> first | rfl | (congr 1; omega) | assumption) rfl
            · have e7 : i + 1 = chosen.length := by omega
              rw [e7, List.take_length] at ho7
              refine W_freezeL (T' := [(0, .ptr rb 0), (1, q), (11, .isl false 1 (ints (negC chosen))), (12, .int .i64 ((i : Int) + 1))]) (σ' := s') ho7.le ⟨.refl _, .refl _, ho7.conv.2, .refl _, trivial⟩ ?_
              refine ih (i + 1, .isl false 1 (ints (negC chosen)), s') _ _ ⟨by simp only; omega, .inr ⟨e7, rfl, rfl⟩⟩ (by simp only; omega) (by simp (disch := omega) only [subT, Int.natCast_add, Int.cast_ofNat_Int, go_sem] <;> (repeat' apply And.intro) <;> first | rfl | (congr 1; omega) | assumption) rfl
          · have d1 : decide ((chosen.length : Int) < (chosen.length : Int)) = false := decide_eq_false (by omega)
            simp (disch := omega) only [stepW_len_arg hAs, d1, negC_len, go_sem]
            have ho3 := ho2.upd (c' := refC4 vars cls true q2) (upd_same _ rb _)
            rw [upd_upd] at ho3
            have many : (decide (st'.length = 200) || decide (12 < chosen.length)) = true → ∃ s9, (∀ c x, s9 c = some x → upd s6 rb (refC4 vars cls true q2) c = some x) ∧ BoxO σ0 (refC4 vars cls (decide (S.2 = 7))) (adds S.1) rb s9 ∧ S.2 = 7 := fun h => by
              rw [out h]
              obtain ⟨s9, r1, r2⟩ := (show BoxO σs (refC4 vars cls true) (adds st') rb _ from ⟨q2, ho3⟩).less hle
              exact ⟨s9, r1, r2, rfl⟩
            first | refine guardW_dec (fun h5 => ?_) (fun h5 => ?_) | refine guardW_by (fun h5 => ?_) (fun h5 => ?_)
            · simp (disch := omega) only [g, refC4, go_sem]
              obtain ⟨s9, r1, r2, r3⟩ := many (by rw [decide_eq_true (by omega : 12 < chosen.length), Bool.or_true])
              refine W_retC c85_ok rfl (Conv.drop _ r1) ⟨?_, r2⟩
              simp only [look, ev, V.bool.injEq, V.int.injEq, V.str.injEq, V.tup.injEq, V.agg.injEq, V.isl.injEq, List.cons.injEq, true_and, and_true, Nat.reduceEqDiff, Nat.reduceAdd, Nat.reduceSub, Nat.reduceMul, Nat.reducePow, Nat.reduceDiv, Nat.reduceMod, Int.reduceToNat, Nat.reduceLeDiff, Nat.reduceLT, Int.reduceEq, Int.reduceLT, Int.reduceLE, Int.reduceGT, Int.reduceGE, Int.reduceNeg, Int.reduceSub, Int.reduceAdd, Int.reduceMul, Int.reducePow, ne_eq, reduceCtorEq, ↓reduceIte]
              rw [r3]; simp
            · simp (disch := omega) only [g, refC4, stepW_len_own ho2, stepsV_len, adds_len, go_sem]
              first | refine iteW_dec (fun h6 => ?_) (fun h6 => ?_) | refine iteW_of (fun h6 => ?_) (fun h6 => ?_)
              · simp (disch := omega) only [g, refC4, go_sem]
                obtain ⟨s9, r1, r2, r3⟩ := many (by rw [decide_eq_true (by omega : st'.length = 200), Bool.true_or])
                refine W_retC c85_ok rfl (Conv.drop _ r1) ⟨?_, r2⟩
                simp only [look, ev, V.bool.injEq, V.int.injEq, V.str.injEq, V.tup.injEq, V.agg.injEq, V.isl.injEq, List.cons.injEq, true_and, and_true, Nat.reduceEqDiff, Nat.reduceAdd, Nat.reduceSub, Nat.reduceMul, Nat.reducePow, Nat.reduceDiv, Nat.reduceMod, Int.reduceToNat, Nat.reduceLeDiff, Nat.reduceLT, Int.reduceEq, Int.reduceLT, Int.reduceLE, Int.reduceGT, Int.reduceGE, Int.reduceNeg, Int.reduceSub, Int.reduceAdd, Int.reduceMul, Int.reducePow, ne_eq, reduceCtorEq, ↓reduceIte]
                rw [r3]; simp
              · have hS2 := fin2 (by rw [decide_eq_false (by omega : ¬ 12 < chosen.length), decide_eq_false (by omega : ¬ st'.length = 200)]; rfl)
                subst hS2
                simp (disch := omega) only [g, refC4, go_sem]
                refine SRun.appL ho2 rfl (show ∀ y ∈ [V.agg [.bool false, .isl false 1 (ints (negC chosen))]], y.cells.length = 2 ∧ ∀ c ∈ y.cells, c.one = true from stepsV_ok [(false, negC chosen)]) (by simp only [stepsV_len, adds_len, List.length_singleton]; omega) ?_
                intro q8 s8 ho8
                have hap : stepsV (adds st') ++ [V.agg [.bool false, .isl false 1 (ints (negC chosen))]] = stepsV (adds (st' ++ [negC chosen])) := by rw [adds_app, ← steps_app]; rfl
                rw [hap] at ho8
                have g8 := ho8.get (upd_same _ rb _)
                have ho9 := ho8.upd (c' := refC4 vars cls false q8) (upd_same _ rb _)
                rw [upd_upd] at ho9
                simp (disch := omega) only [g8, refC4, ho8.one, ho8.cells, go_sem]
                obtain ⟨s9, r1, r2⟩ := (show BoxO σs (refC4 vars cls false) (adds (st' ++ [negC chosen])) rb _ from ⟨q8, ho9⟩).less hle
                exact W_retC c85_ok rfl (Conv.drop _ r1) ⟨rfl, r2⟩
end
section
attribute [local irreducible] SRun DS DRun
variable {Γ : St} {σ σ0 : St}
/-- What is said of a refutation. -/
def refA (vars : Int) (cls : List (List Int)) : List (Bool × List Int) × Int := bif (refP vars cls (vars.toNat + 2) [] []).2 == 0 then (adds (refP vars cls (vars.toNat + 2) [] []).1, 0) else ([], (refP vars cls (vars.toNat + 2) [] []).2)
theorem zeros_zeroVals {vars : Int} (hv : 0 ≤ vars) : (zeros (zeroVals vars) : Int) ≤ vars := by
  have h1 : zeros (zeroVals vars) ≤ ((zeroVals vars).drop 1).length := List.count_le_length
  have h2 := zeroVals_len hv
  rw [List.length_drop] at h1; omega
theorem refP_top {vars : Int} {cls : List (List Int)} (hv : 0 ≤ vars) (hc : ClsOK vars cls) : ((refP vars cls (vars.toNat + 2) [] []).2 = 0 ∨ (refP vars cls (vars.toNat + 2) [] []).2 = 7 ∨ ((refP vars cls (vars.toNat + 2) [] []).2 = 6 ∧ modelP vars cls ≠ none)) ∧ (refP vars cls (vars.toNat + 2) [] []).1.length ≤ 200 := by
  have hz := zeros_zeroVals hv
  obtain ⟨h1, h2⟩ := refP_model hv hc (vars.toNat + 2) [] [] (fun x hx => by cases hx) (by show zeros (zeroVals vars) < _; omega)
  exact ⟨h1, by simpa using h2⟩
theorem specRefutation_ok {vars : Int} {cls : List (List Int)} (hb : cnfB vars cls = true) (hv : 1 ≤ vars) :
    Ret Tryd.prog Γ 71 [cnfV vars cls] σ (.tup [.isl false 2 (stepsV (refA vars cls).1), .int .i64 (refA vars cls).2]) σ := by
  obtain ⟨hc, hv0, hv40, hcl⟩ := clsOK_of hb
  have hz := zeros_zeroVals (vars := vars) (by omega)
  have ht := refP_top hv0 hc
  have hA := refA.eq_1 vars cls
  refine ret_of c71_ok rfl ?_
  simp (disch := omega) only [c71, cnfV, go_sem]
  refine SRun.boxR (by simp [ev, look, V.cells, V.one]) ?_
  intro b1 hb1
  simp (disch := omega) only [go_sem]
  refine SRun.callR (cnfOK_ok hb) ⟨[], rfl, rfl⟩ rfl ?_
  simp (disch := omega) only [go_sem]
  refine SRun.boxR (by simp [ev, look, V.cells, V.one]) ?_
  intro b2 hb2
  have hle2 : ∀ z c x, σ c = some x → upd (upd σ b1 [.int .i64 vars, .isl false 1 (clsV cls)]) b2 z c = some x := fun z c x h => le_upd hb2 _ _ (le_upd hb1 _ _ h)
  generalize upd σ b1 [.int .i64 vars, .isl false 1 (clsV cls)] = s1 at *
  simp (disch := omega) only [go_sem]
  have hro : BoxO s1 (refC4 vars cls false) (adds []) b2 (upd s1 b2 [.int .i64 vars, .isl false 1 (clsV cls), .isl true 0 [], .bool false]) := ⟨.isl true 0 [], OwnL.nil 2 0⟩
  refine SRun.callQ (from_ok (by omega) hc (vars.toNat + 2) _ s1 [] [] (.isl true 1 []) b2 (by show zeros (zeroVals vars) < _; omega) (by show 0 + zeros (zeroVals vars) ≤ 60; omega) (fun x hx => by cases hx) (by simp) hro (.inl ⟨true, rfl⟩)) ⟨[], rfl, rfl⟩ rfl ?_
  rintro _ s3 ⟨rfl, q, ho3⟩
  generalize refP vars cls (vars.toNat + 2) [] [] = R at *
  have g3 := ho3.get (upd_same _ b2 _)
  by_cases h0 : R.2 = 0
  · rw [h0] at hA g3 ho3
    simp only [beq_self_eq_true, cond_true] at hA
    have h07 : ((0 : Int) == 7) = false := rfl
    rw [h07] at g3 ho3
    have h0b : (R.2 == 0) = true := by simpa using h0
    simp (disch := omega) only [h0b, g3, refC4, go_sem]
    rw [hA]
    have hfz : Frz s3 σ q (.isl false 2 (stepsV (adds R.1))) := ho3.frz (fun _ _ => rfl) fun d hd => by
      cases e : σ d with
      | none => rfl
      | some c => rw [hle2 _ d c e] at hd; cases hd
    refine W_retC c71_ok (r := .tup [q, .int .i64 0]) (r' := .tup [.isl false 2 (stepsV (adds R.1)), .int .i64 0]) rfl ⟨fun c x h => ho3.le c x (hle2 _ c x h), frz_tup (by exact ⟨hfz, .refl _, trivial⟩)⟩ ⟨rfl, rfl⟩
  · have h0' : (R.2 == 0) = false := by simpa using h0
    rw [h0'] at hA ⊢
    simp only [cond_false] at hA
    rw [hA]
    simp (disch := omega) only [go_sem]
    by_cases h7 : R.2 = 7
    · have h77 : (R.2 == 7) = true := by simpa using h7
      rw [h77] at g3 ho3
      simp (disch := omega) only [g3, refC4, go_sem]
      rw [h7]
      exact W_retC c71_ok (r := .tup [.isl true 2 [], .int .i64 7]) (r' := .tup [.isl false 2 (stepsV []), .int .i64 7]) rfl ⟨fun c x h => ho3.le c x (hle2 _ c x h), frz_tup (by exact ⟨.isl0 _ _ _ _ (fun _ => rfl), .refl _, trivial⟩)⟩ ⟨rfl, rfl⟩
    · have h77 : (R.2 == 7) = false := by simpa using h7
      rw [h77] at g3 ho3
      have h6 : R.2 = 6 := by rcases ht.1 with h | h | h <;> first | exact absurd h h0 | exact absurd h h7 | exact h.1
      simp (disch := omega) only [g3, refC4, go_sem]
      rw [h6]
      exact W_retC c71_ok (r := .tup [.isl true 2 [], .int .i64 6]) (r' := .tup [.isl false 2 (stepsV []), .int .i64 6]) rfl ⟨fun c x h => ho3.le c x (hle2 _ c x h), frz_tup (by exact ⟨.isl0 _ _ _ _ (fun _ => rfl), .refl _, trivial⟩)⟩ ⟨rfl, rfl⟩
end
section
attribute [local irreducible] SRun DS DRun
variable {Γ : St} {σ σ0 : St}
section
variable {P : Program} {f : FuncId} {n : Nat} {Q : V → St → Prop} {k : List It} {T : Ts} {g : GI} {l : List GI}
theorem stepW_iaddr_steps {ex : Bool} {st : List (Bool × List Int)} {kk : IntKind} {m : Int} (h0 : 0 ≤ m) (h1 : m < st.length) : stepW P Γ f n Q (.iaddr 2 (.c (.isl ex 2 (stepsV st))) (.c (.int kk m))) g l k T σ = W P Γ f n Q (.ops l :: k) (putT T g.d (.iptr [.bool (st.getD m.toNat (false, [])).1, .isl false 1 (ints (st.getD m.toNat (false, [])).2)])) σ := stepW_iaddr_map h0 h1
theorem stepK_iaddr_steps {K : V → St → Prop} {ex : Bool} {st : List (Bool × List Int)} {kk : IntKind} {m : Int} (h0 : 0 ≤ m) (h1 : m < st.length) : stepK (.iaddr 2 (.c (.isl ex 2 (stepsV st))) (.c (.int kk m))) σ K = K (.iptr [.bool (st.getD m.toNat (false, [])).1, .isl false 1 (ints (st.getD m.toNat (false, [])).2)]) σ := stepK_iaddr_map h0 h1
end
attribute [go_sem] stepW_iaddr_steps stepK_iaddr_steps stepsV_len
def stepB (vars : Int) (s : Bool × List Int) : Bool := clauseB vars s.2
def stepsB (vars : Int) (st : List (Bool × List Int)) : Bool := decide (st.length ≤ 200) && st.all (stepB vars)
theorem areSteps1_ok {s : Bool × List Int} {vars : Int} {b : Nat} (hb : σ b = some [.int .i64 vars]) (hv : 0 ≤ vars ∧ vars ≤ 1000000) (hl : s.2.length ≤ 1000000) : Ret Tryd.prog Γ 74 [.agg [.bool s.1, .isl false 1 (ints s.2)], .ptr b 0] σ (.bool (!stepB vars s)) σ := by
  refine ret_of c74_ok rfl ?_
  simp (disch := omega) only [c74, go_sem]
  refine SRun.boxR (by simp [ev, look, V.cells, V.one]) ?_
  intro b2 hb2
  have g : ∀ z, upd σ b2 z b = some [.int .i64 vars] := fun z => le_upd hb2 _ _ hb
  simp (disch := omega) only [g, go_sem]
  refine SRun.callR (isClause_ok (by omega) hv) ⟨[], rfl, rfl⟩ rfl ?_
  simp (disch := omega) only [go_sem]
  exact W_retC c74_ok rfl (Conv.drop _ (le_upd hb2)) ⟨rfl, rfl⟩
theorem indexFuncS_ok {ex : Bool} {xs : List (Bool × List Int)} {F : FuncId} {caps : List V} {p : Bool × List Int → Bool} (hl : xs.length ≤ 140737488355328) (hp : ∀ x ∈ xs, Ret Tryd.prog Γ F (.agg [.bool x.1, .isl false 1 (ints x.2)] :: caps) σ (.bool (p x)) σ) :
    Ret Tryd.prog Γ 86 [.isl ex 2 (stepsV xs), .fn F caps] σ (.int .i64 (match xs.findIdx? p with | some i => (i : Int) | none => -1)) σ := by
  refine ret_of c86_ok rfl ?_
  simp (disch := omega) only [c86, go_sem]
  refine W_loopC (fun i : Nat => i ≤ xs.length ∧ ∀ j x, j < i → xs[j]? = some x → p x = false) (fun i => [(0, .isl ex 2 (stepsV xs)), (1, .fn F caps), (7, .int .i64 xs.length), (8, .int .i64 (i : Nat))]) (fun _ => σ) (fun i => xs.length - i) 0 ⟨by omega, fun j x hj => by omega⟩ (by simp (disch := omega) only [subT, Int.natCast_add, Int.cast_ofNat_Int, go_sem] <;> (repeat' apply And.intro) <;> first | rfl | (congr 1; omega) | assumption) rfl ?_
  rintro i ⟨hi, hno⟩ ih
  simp (disch := omega) only [go_sem]
  first | refine iteW_dec (fun h => ?_) (fun h => ?_) | refine iteW_of (fun h => ?_) (fun h => ?_)
  · have hlt : i < xs.length := by omega
    have hm := getD_mem (false, []) hlt
    have hs := getD_some (false, []) hlt
    simp (disch := omega) only [go_sem]
    generalize xs.getD i (false, []) = x at hm hs ⊢
    refine SRun.callR (hp _ hm) ⟨caps, rfl, rfl⟩ rfl ?_
    simp (disch := omega) only [go_sem]
    first | refine iteW_dec (fun hb => ?_) (fun hb => ?_) | refine iteW_of (fun hb => ?_) (fun hb => ?_)
    · simp (disch := omega) only [go_sem]
      refine W_retR c86_ok rfl ⟨?_, rfl⟩
      simp only [look, ev, V.bool.injEq, V.int.injEq, V.str.injEq, V.tup.injEq, V.agg.injEq, V.isl.injEq, List.cons.injEq, true_and, and_true, Nat.reduceEqDiff, Nat.reduceAdd, Nat.reduceSub, Nat.reduceMul, Nat.reducePow, Nat.reduceDiv, Nat.reduceMod, Int.reduceToNat, Nat.reduceLeDiff, Nat.reduceLT, Int.reduceEq, Int.reduceLT, Int.reduceLE, Int.reduceGT, Int.reduceGE, Int.reduceNeg, Int.reduceSub, Int.reduceAdd, Int.reduceMul, Int.reducePow, ne_eq, reduceCtorEq, ↓reduceIte]
      have : xs.findIdx? p = some i := by
        rw [List.findIdx?_eq_some_iff_getElem]
        refine ⟨hlt, ?_, fun j hj => ?_⟩
        · have : xs[i] = x := by rw [List.getElem?_eq_getElem hlt] at hs; exact Option.some.inj hs
          rw [this]; exact hb
        · simpa using hno j xs[j] hj (by simp)
      rw [this]
    · simp (disch := omega) only [go_sem]
      refine ih (i + 1) _ _ ⟨by omega, fun j y hj hy => ?_⟩ (by omega) (by simp (disch := omega) only [subT, Int.natCast_add, Int.cast_ofNat_Int, go_sem] <;> (repeat' apply And.intro) <;> first | rfl | (congr 1; omega) | assumption) rfl
      by_cases hji : j = i
      · subst hji; rw [hs] at hy; obtain rfl := Option.some.inj hy; simpa using hb
      · exact hno j y (by omega) hy
  · simp (disch := omega) only [go_sem]
    refine W_retR c86_ok rfl ⟨?_, rfl⟩
    simp only [look, ev, V.bool.injEq, V.int.injEq, V.str.injEq, V.tup.injEq, V.agg.injEq, V.isl.injEq, List.cons.injEq, true_and, and_true, Nat.reduceEqDiff, Nat.reduceAdd, Nat.reduceSub, Nat.reduceMul, Nat.reducePow, Nat.reduceDiv, Nat.reduceMod, Int.reduceToNat, Nat.reduceLeDiff, Nat.reduceLT, Int.reduceEq, Int.reduceLT, Int.reduceLE, Int.reduceGT, Int.reduceGE, Int.reduceNeg, Int.reduceSub, Int.reduceAdd, Int.reduceMul, Int.reducePow, ne_eq, reduceCtorEq, ↓reduceIte]
    have : xs.findIdx? p = none := by
      rw [List.findIdx?_eq_none_iff]
      intro x hx
      obtain ⟨j, hj, rfl⟩ := List.getElem_of_mem hx
      exact hno j _ (by omega) (by simp)
    rw [this]
theorem containsFuncS_ok {ex : Bool} {xs : List (Bool × List Int)} {F : FuncId} {caps : List V} {p : Bool × List Int → Bool} (hl : xs.length ≤ 140737488355328) (hp : ∀ x ∈ xs, Ret Tryd.prog Γ F (.agg [.bool x.1, .isl false 1 (ints x.2)] :: caps) σ (.bool (p x)) σ) :
    Ret Tryd.prog Γ 73 [.isl ex 2 (stepsV xs), .fn F caps] σ (.bool (xs.any p)) σ := by
  refine ret_of c73_ok rfl ?_
  simp (disch := omega) only [c73, go_sem]
  refine SRun.callR (indexFuncS_ok hl hp) ⟨[], rfl, rfl⟩ rfl ?_
  have h := any_find xs p
  simp (disch := omega) only [go_sem]
  refine W_retR c73_ok rfl ⟨?_, rfl⟩
  simp only [look, ev, V.bool.injEq, V.int.injEq, V.str.injEq, V.tup.injEq, V.agg.injEq, V.isl.injEq, List.cons.injEq, true_and, and_true, Nat.reduceEqDiff, Nat.reduceAdd, Nat.reduceSub, Nat.reduceMul, Nat.reducePow, Nat.reduceDiv, Nat.reduceMod, Int.reduceToNat, Nat.reduceLeDiff, Nat.reduceLT, Int.reduceEq, Int.reduceLT, Int.reduceLE, Int.reduceGT, Int.reduceGE, Int.reduceNeg, Int.reduceSub, Int.reduceAdd, Int.reduceMul, Int.reducePow, ne_eq, reduceCtorEq, ↓reduceIte]
  exact h
theorem areSteps_ok {ex : Bool} {st : List (Bool × List Int)} {vars : Int} (hv : 0 ≤ vars ∧ vars ≤ 1000000) (hl : st.length ≤ 1000000) (hs : ∀ s ∈ st, s.2.length ≤ 1000000) : Ret Tryd.prog Γ 46 [.isl ex 2 (stepsV st), .int .i64 vars] σ (.bool (stepsB vars st)) σ := by
  refine ret_of c46_ok rfl ?_
  simp (disch := omega) only [c46, go_sem]
  refine SRun.boxR (by simp [ev, look, V.cells, V.one]) ?_
  intro b hb
  by_cases h : (st.length : Int) ≤ 200
  · have d := decide_eq_true h
    simp (disch := omega) only [d, go_sem]
    refine SRun.callR (containsFuncS_ok (p := fun s => !stepB vars s) (by omega) fun s hm => areSteps1_ok (b := b) (upd_same _ _ _) hv (hs s hm)) ⟨[], rfl, rfl⟩ rfl ?_
    simp (disch := omega) only [go_sem]
    refine W_retC c46_ok rfl (Conv.drop _ (le_upd hb)) ⟨?_, rfl⟩
    simp only [look, ev, V.bool.injEq, V.int.injEq, V.str.injEq, V.tup.injEq, V.agg.injEq, V.isl.injEq, List.cons.injEq, true_and, and_true, Nat.reduceEqDiff, Nat.reduceAdd, Nat.reduceSub, Nat.reduceMul, Nat.reducePow, Nat.reduceDiv, Nat.reduceMod, Int.reduceToNat, Nat.reduceLeDiff, Nat.reduceLT, Int.reduceEq, Int.reduceLT, Int.reduceLE, Int.reduceGT, Int.reduceGE, Int.reduceNeg, Int.reduceSub, Int.reduceAdd, Int.reduceMul, Int.reducePow, ne_eq, reduceCtorEq, ↓reduceIte]
    have : decide (st.length ≤ 200) = true := decide_eq_true (by omega)
    unfold stepsB
    rw [this, Bool.true_and, List.all_eq_not_any_not]
  · have d := decide_eq_false h
    simp (disch := omega) only [d, go_sem]
    refine W_retC c46_ok rfl (Conv.drop _ (le_upd hb)) ⟨?_, rfl⟩
    simp only [look, ev, V.bool.injEq, V.int.injEq, V.str.injEq, V.tup.injEq, V.agg.injEq, V.isl.injEq, List.cons.injEq, true_and, and_true, Nat.reduceEqDiff, Nat.reduceAdd, Nat.reduceSub, Nat.reduceMul, Nat.reducePow, Nat.reduceDiv, Nat.reduceMod, Int.reduceToNat, Nat.reduceLeDiff, Nat.reduceLT, Int.reduceEq, Int.reduceLT, Int.reduceLE, Int.reduceGT, Int.reduceGE, Int.reduceNeg, Int.reduceSub, Int.reduceAdd, Int.reduceMul, Int.reducePow, ne_eq, reduceCtorEq, ↓reduceIte]
    have : decide (st.length ≤ 200) = false := decide_eq_false (by omega)
    unfold stepsB
    rw [this, Bool.false_and]
theorem l03Steps_ok {ex : Bool} {st : List (Bool × List Int)} {vars : Int} (hv : 0 ≤ vars ∧ vars ≤ 1000000) (hl : st.length ≤ 1000000) (hs : ∀ s ∈ st, s.2.length ≤ 1000000) : Ret Tryd.prog Γ 47 [.isl ex 2 (stepsV st), .int .i64 vars] σ (.bool (stepsB vars st)) σ := by
  refine ret_of c47_ok rfl ?_
  simp (disch := omega) only [c47, go_sem]
  first | refine iteW_dec (fun h => ?_) (fun h => ?_) | refine iteW_of (fun h => ?_) (fun h => ?_)
  · simp (disch := omega) only [go_sem]
    refine W_retR c47_ok rfl ⟨?_, rfl⟩
    simp only [look, ev, V.bool.injEq, V.int.injEq, V.str.injEq, V.tup.injEq, V.agg.injEq, V.isl.injEq, List.cons.injEq, true_and, and_true, Nat.reduceEqDiff, Nat.reduceAdd, Nat.reduceSub, Nat.reduceMul, Nat.reducePow, Nat.reduceDiv, Nat.reduceMod, Int.reduceToNat, Nat.reduceLeDiff, Nat.reduceLT, Int.reduceEq, Int.reduceLT, Int.reduceLE, Int.reduceGT, Int.reduceGE, Int.reduceNeg, Int.reduceSub, Int.reduceAdd, Int.reduceMul, Int.reducePow, ne_eq, reduceCtorEq, ↓reduceIte]
    have : decide (st.length ≤ 200) = false := decide_eq_false (by omega)
    unfold stepsB
    rw [this, Bool.false_and]
  · simp (disch := omega) only [go_sem]
    have h2 : decide (st.length ≤ 200) = true := decide_eq_true (by omega)
    refine W_loopC (fun i : Nat => i ≤ st.length ∧ (st.take i).all (stepB vars) = true) (fun i => [(0, .isl ex 2 (stepsV st)), (1, .int .i64 vars), (5, .int .i64 (i : Nat))]) (fun _ => σ) (fun i => st.length - i) 0 ⟨by omega, rfl⟩ (by simp (disch := omega) only [subT, Int.natCast_add, Int.cast_ofNat_Int, go_sem] <;> (repeat' apply And.intro) <;> first | rfl | (congr 1; omega) | assumption) rfl ?_
    rintro i ⟨hi, hall⟩ ih
    simp (disch := omega) only [go_sem]
    first | refine iteW_dec (fun h3 => ?_) (fun h3 => ?_) | refine iteW_of (fun h3 => ?_) (fun h3 => ?_)
    · have hlt : i < st.length := by omega
      have hm := getD_mem (false, []) hlt
      have hsm := getD_some (false, []) hlt
      simp (disch := omega) only [go_sem]
      generalize st.getD i (false, []) = s at hm hsm ⊢
      refine SRun.callR (l01Clause_ok (hs s hm) hv) ⟨[], rfl, rfl⟩ rfl ?_
      simp (disch := omega) only [go_sem]
      cases hc : clauseB vars s.2 with
      | true =>
        simp (disch := omega) only [go_sem]
        exact ih (i + 1) _ _ ⟨by omega, all_take hall hsm hc⟩ (by omega) (by simp (disch := omega) only [subT, Int.natCast_add, Int.cast_ofNat_Int, go_sem] <;> (repeat' apply And.intro) <;> first | rfl | (congr 1; omega) | assumption) rfl
      | false =>
        simp (disch := omega) only [go_sem]
        refine W_retR c47_ok rfl ⟨?_, rfl⟩
        simp only [look, ev, V.bool.injEq, V.int.injEq, V.str.injEq, V.tup.injEq, V.agg.injEq, V.isl.injEq, List.cons.injEq, true_and, and_true, Nat.reduceEqDiff, Nat.reduceAdd, Nat.reduceSub, Nat.reduceMul, Nat.reducePow, Nat.reduceDiv, Nat.reduceMod, Int.reduceToNat, Nat.reduceLeDiff, Nat.reduceLT, Int.reduceEq, Int.reduceLT, Int.reduceLE, Int.reduceGT, Int.reduceGE, Int.reduceNeg, Int.reduceSub, Int.reduceAdd, Int.reduceMul, Int.reducePow, ne_eq, reduceCtorEq, ↓reduceIte]
        unfold stepsB
        rw [all_false hsm (show stepB vars s = false from hc), Bool.and_false]
    · rw [List.take_of_length_le (by omega)] at hall
      simp (disch := omega) only [go_sem]
      refine W_retR c47_ok rfl ⟨?_, rfl⟩
      simp only [look, ev, V.bool.injEq, V.int.injEq, V.str.injEq, V.tup.injEq, V.agg.injEq, V.isl.injEq, List.cons.injEq, true_and, and_true, Nat.reduceEqDiff, Nat.reduceAdd, Nat.reduceSub, Nat.reduceMul, Nat.reducePow, Nat.reduceDiv, Nat.reduceMod, Int.reduceToNat, Nat.reduceLeDiff, Nat.reduceLT, Int.reduceEq, Int.reduceLT, Int.reduceLE, Int.reduceGT, Int.reduceGE, Int.reduceNeg, Int.reduceSub, Int.reduceAdd, Int.reduceMul, Int.reducePow, ne_eq, reduceCtorEq, ↓reduceIte]
      unfold stepsB
      rw [hall, h2]; rfl
end
section
attribute [local irreducible] SRun DS DRun
variable {Γ : St} {σ σ0 : St}
theorem cl_of {vars : Int} {cls : List (List Int)} (h : cnfB vars cls = true) : Cl vars cls := fun c hc => by
  simp only [cnfB, Bool.and_eq_true, List.all_eq_true] at h
  have := h.2 c hc
  simp only [clauseB, Bool.and_eq_true, decide_eq_true_eq, List.all_eq_true] at this
  exact ⟨this.1, fun x hx => litB_iff.1 (this.2 x hx)⟩
theorem Cl.more {vars : Int} {cls : List (List Int)} (h : Cl vars cls) (hv : vars ≤ 40) : Cl 40 cls := fun c hc => ⟨(h c hc).1, fun x hx => by have := (h c hc).2 x hx; exact ⟨this.1, by have := this.2; omega, by have := this.2; omega⟩⟩
theorem WrF.appS {P : Program} {T : Ts} {es len : Nat} {cells new : List V} {m : Nat} {d : Option Nat} {by_ : Nat} {s x : Opd} (h : OwnS σ0 es cells len (ev Γ T s) σ) (hsrc : srcV σ es (ev Γ T x) = some (new, m)) (hnl : new.length = m * es) (hfit : (len + m) * by_ ≤ 140737488355328) :
    WrF P Γ σ T ⟨d, none, .app es by_ s x⟩ fun r σ' => OwnS σ0 es (cells ++ new) (len + m) r σ' :=
  WrF.of fun T' hT => InsOK.appO (by rw [hT s (by simp [I.opds])]; exact h) (by rw [hT x (by simp [I.opds])]; exact hsrc) hnl hfit
end
section
section
variable {Γ : St} {σ σ0 : St}
variable {P : Program} {f : FuncId} {n : Nat} {Q : V → St → Prop} {k : List It} {T : Ts}
/-- One block is written, the rest is read, and new blocks may come. -/
theorem DRun.mixR1 {b : Nat} {c : List V} {t : DT} {segs : List DT} (hb : σ b = some c) (R : Ts → St → Prop) (hr : rdOK t = true) (h : DSW P Γ (del σ b) t T (upd emp b c) R) (hk : ∀ T s, R T s → WD P Γ f n Q k segs T (cup s (del σ b))) : DRun P Γ f n Q (t :: segs) k T σ := by
  with_unfolding_all exact ⟨upd emp b c, del σ b, (fun m => by
    by_cases e : m = b
    · subst e; exact .inr (del_same _ _)
    · exact .inl (by rw [upd_ne _ _ e]; rfl)), (by
    funext m
    by_cases e : m = b
    · subst e; simp [cup, upd, hb]
    · simp [cup, upd, emp, del, e]), DS.mono (fun T s hR => (hk T s hR).sound) (DS.of hr h)⟩
theorem cup_del2 {b b2 : Nat} {c z : List V} (hne : b2 ≠ b) : cup (upd (upd emp b c) b2 z) (del σ b) = upd (upd σ b c) b2 z := by
  funext m
  by_cases e2 : m = b2
  · subst e2; simp [cup, upd]
  · by_cases e : m = b
    · subst e; simp [cup, upd, e2]
    · simp [cup, upd, emp, del, e, e2]
end
attribute [local irreducible] SRun DS DRun
variable {Γ : St} {σ σ0 : St}
def StepsOK (vars : Int) (st : List (Bool × List Int)) : Prop := ∀ s ∈ st, s.2.length ≤ 12 ∧ ∀ x ∈ s.2, litOK vars x
theorem refA_steps {vars : Int} {cls : List (List Int)} (hv : 1 ≤ vars) (hc : Cl vars cls) (hl : cls.length ≤ 300) : (refA vars cls).1.length ≤ 200 ∧ StepsOK vars (refA vars cls).1 := by
  have ht := refP_top (by omega) (hc.ok (by omega))
  have hA := refA.eq_1 vars cls
  generalize hR : refP vars cls (vars.toNat + 2) [] [] = R at *
  obtain ⟨out, c⟩ := R
  by_cases h0 : c = 0
  · subst h0
    obtain ⟨_, _, h3⟩ := refP_proof (by omega) hc (by omega) hR (by have := ht.2; simp only at this; omega)
    have hA2 : refA vars cls = (adds out, 0) := hA
    rw [hA2]
    refine ⟨by rw [adds_len]; exact ht.2, fun s hs => ?_⟩
    simp only [adds, List.mem_map] at hs
    obtain ⟨d, hd, rfl⟩ := hs
    exact h3 d hd
  · have h0' : (c == 0) = false := by simpa using h0
    have hA2 : refA vars cls = ([], c) := by rw [hA]; simp only [h0', cond_false]
    rw [hA2]
    exact ⟨by simp, fun s hs => by cases hs⟩
theorem StepsOK.ins {vars : Int} {st : List (Bool × List Int)} {x : Bool × List Int} {k : Nat} (h : StepsOK vars st) (hx : x.2.length ≤ 12 ∧ ∀ y ∈ x.2, litOK vars y) : StepsOK vars (st.take k ++ [x] ++ st.drop k) := fun s hs => by
  simp only [List.mem_append, List.mem_singleton] at hs
  rcases hs with (hs | rfl) | hs
  · exact h s (List.mem_of_mem_take hs)
  · exact hx
  · exact h s (List.mem_of_mem_drop hs)
set_option maxHeartbeats 8000000 in
theorem steps_ok {b : Nat} {ex : Bool} {code : List UInt8} {s : Int} {vars : Int} {cls : List (List Int)} (hb : σ b = some (srcC ex code 0 s)) (hs : 0 ≤ s ∧ s < 2147483648) (hv : 1 ≤ vars ∧ vars ≤ 40) (hc : Cl vars cls) (hl : cls.length ≤ 300) (hcn : cnfB vars cls = true) :
    ACalls Tryd.prog Γ 45 [.ptr b 0, cnfV vars cls] σ fun r σ' => ∃ out a' s', out.length ≤ 202 ∧ StepsOK vars out ∧ r = .isl false 2 (stepsV out) ∧ σ' = upd σ b (srcC ex code a' s') := by
  have hst := refA_steps hv.1 hc hl
  refine acalls_W c45_ok rfl ?_
  simp (disch := omega) only [c45, cnfV, go_sem]
  refine SRun.boxR (by simp [ev, look, V.cells, V.one]) ?_
  intro b3 hb3
  have e3 : b3 ≠ b := fun e => by subst e; rw [hb] at hb3; cases hb3
  have hS : ∀ a s, upd (upd σ b3 [.int .i64 vars, .isl false 1 (clsV cls)]) b (srcC ex code a s) b3 = some [.int .i64 vars, .isl false 1 (clsV cls)] := fun a s => by rw [upd_ne _ _ e3, upd_same]
  have hfin : ∀ a s, ∀ c x, upd σ b (srcC ex code a s) c = some x → upd (upd σ b3 [.int .i64 vars, .isl false 1 (clsV cls)]) b (srcC ex code a s) c = some x := fun a s c x hx => by
    by_cases e : c = b
    · subst e; rw [upd_same] at hx ⊢; exact hx
    · rw [upd_ne _ _ e] at hx ⊢
      rw [upd_ne _ _ (fun e => by subst e; rw [hb3] at hx; cases hx)]; exact hx
  have h0 : upd σ b3 [.int .i64 vars, .isl false 1 (clsV cls)] = upd (upd σ b3 [.int .i64 vars, .isl false 1 (clsV cls)]) b (srcC ex code 0 s) := by
    exact (upd_self _ (by rw [upd_ne _ _ e3.symm]; exact hb)).symm
  simp (disch := omega) only [go_sem]
  rw [h0]
  generalize hB : upd σ b3 [.int .i64 vars, .isl false 1 (clsV cls)] = B at *
  clear h0
  have hS0 := hS 0 s
  refine SRun.callR (specRefutation_ok hcn hv.1) ⟨[], rfl, rfl⟩ rfl ?_
  generalize refA vars cls = A at *
  obtain ⟨out0, c⟩ := A
  dsimp only at hst
  have hnil : StepsOK vars [] := fun s hs => by cases hs
  by_cases hc0 : c = 0
  case' pos =>
    subst hc0
    have d0 : (decide ¬ (0 : Int) = 0) = false := by simp
    simp (disch := omega) only [d0, go_sem]
    refine SRun.callQ (chance_ok (upd_same _ _ _) (by omega) hs (by omega)) ⟨[], rfl, rfl⟩ rfl ?_
    rintro r σ1 ⟨v, a1, s1, j1, j2, j3, j4, rfl, rfl⟩
    rw [upd_upd]
    cases v
    case' true =>
      simp (disch := omega) only [go_sem]
      obtain ⟨e1, out1, hst1, hq⟩ : ∃ e1 out1, (out1.length ≤ 200 ∧ StepsOK vars out1) ∧ V.isl true 2 [] = .isl e1 2 (stepsV out1) := ⟨true, [], ⟨by simp, hnil⟩, rfl⟩
    case' false =>
      simp (disch := omega) only [go_sem]
      obtain ⟨e1, out1, hst1, hq⟩ : ∃ e1 out1, (out1.length ≤ 200 ∧ StepsOK vars out1) ∧ V.isl false 2 (stepsV out0) = .isl e1 2 (stepsV out1) := ⟨false, out0, hst, rfl⟩
  case' neg =>
    have d0 : (decide ¬ c = 0) = true := by simp [hc0]
    simp (disch := omega) only [d0, go_sem]
    obtain ⟨a1, s1, j1, j2, j3, j4, hss⟩ : ∃ a1 s1, 0 ≤ a1 ∧ a1 ≤ 0 + 3 ∧ 0 ≤ s1 ∧ s1 < 2147483648 ∧ upd B b (srcC ex code 0 s) = upd B b (srcC ex code a1 s1) := ⟨0, s, by omega, by omega, hs.1, hs.2, rfl⟩
    rw [hss]
    clear hss
    obtain ⟨e1, out1, hst1, hq⟩ : ∃ e1 out1, (out1.length ≤ 200 ∧ StepsOK vars out1) ∧ V.isl true 2 [] = .isl e1 2 (stepsV out1) := ⟨true, [], ⟨by simp, hnil⟩, rfl⟩
  all_goals
    refine SRun.freeze (σ' := upd B b (srcC ex code a1 s1)) (T' := [(0, .ptr b 0), (3, .ptr b3 0), (5, .isl e1 2 (stepsV out1)), (22, .ptr b 0)]) (fun _ _ h => h) ⟨.refl _, .refl _, by rw [← hq]; exact .refl _, .refl _, trivial⟩ ?_
    clear hq
    refine SRun.callQ (next_ok (upd_same _ _ _) (by omega) ⟨j3, j4⟩) ⟨[], rfl, rfl⟩ rfl ?_
    rintro r σ1 ⟨m0, a2, s2, i1, _, i3, i4, i5, i6, i7, rfl, rfl⟩
    have hm0 := i3 (by omega)
    rw [upd_upd]
    obtain ⟨M, rfl⟩ : ∃ M : Nat, m0 = M := ⟨m0.toNat, by omega⟩
    simp (disch := omega) only [go_sem]
    refine W_loopC (α := Nat × Bool × List (Bool × List Int) × Int × Int) (fun p => p.1 ≤ 2 ∧ p.2.2.1.length + p.1 ≤ 202 ∧ StepsOK vars p.2.2.1 ∧ (0 ≤ p.2.2.2.1 ∧ p.2.2.2.1 + 60 * (p.1 : Int) ≤ 1000) ∧ (0 ≤ p.2.2.2.2 ∧ p.2.2.2.2 < 2147483648)) (fun p => [(0, .ptr b 0), (3, .ptr b3 0), (5, .isl p.2.1 2 (stepsV p.2.2.1)), (7, .int .i64 (p.1 : Nat))]) (fun p => upd B b (srcC ex code p.2.2.2.1 p.2.2.2.2)) (fun p => p.1) (M, e1, out1, a2, s2) ⟨by simp only; omega, by simp only; omega, hst1.2, ⟨by simp only; omega, by simp only; omega⟩, ⟨i6, i7⟩⟩ (by simp (disch := omega) only [subT, Int.natCast_add, Int.cast_ofNat_Int, go_sem] <;> (repeat' apply And.intro) <;> first | rfl | (congr 1; omega) | assumption) rfl ?_
    clear hst1 i1 i3 i4 i5 i6 i7 j1 j2 j3 j4 hm0
    rintro ⟨m, e, out, a, s⟩ ⟨hm, hol, hok, ha, hs2⟩ ih
    dsimp only at hm hol hok ha hs2
    have gb : upd B b (srcC ex code a s) b = some (srcC ex code a s) := upd_same _ _ _
    simp (disch := omega) only [go_sem]
    first | refine iteW_dec (fun h1 => ?_) (fun h1 => ?_) | refine iteW_of (fun h1 => ?_) (fun h1 => ?_)
    · simp (disch := omega) only [go_sem]
      rw [W_draw]
      have g3d : del (upd B b (srcC ex code a s)) b b3 = some [.int .i64 vars, .isl false 1 (clsV cls)] := by rw [del_ne _ e3]; exact hS a s
      refine DRun.start (DRun.mixR1 gb (fun T s' => ∃ v a4 s4 xs b8, (a ≤ a4 ∧ a4 ≤ a + 30) ∧ (0 ≤ s4 ∧ s4 < 2147483648) ∧ (xs.length ≤ 12 ∧ ∀ x ∈ xs, litOK vars x) ∧ b8 ≠ b ∧ upd B b (srcC ex code a s) b8 = none ∧ s' = upd (upd emp b (srcC ex code a4 s4)) b8 [.bool false, .isl true 0 []] ∧ look T 0 = .ptr b 0 ∧ look T 3 = .ptr b3 0 ∧ look T 5 = .isl e 2 (stepsV out) ∧ look T 7 = .int .i64 (m : Nat) ∧ look T 8 = .ptr b8 0 ∧ look T 36 = .agg [.bool v, .isl false 1 (ints xs)]) rfl ?_ ?_)
      · have hfree : ∀ {b10 : Nat} {z y : List V}, disj (upd (upd emp b z) b10 y) (del (upd B b (srcC ex code a s)) b) → (upd emp b z) b10 = none → b10 ≠ b ∧ upd B b (srcC ex code a s) b10 = none := fun {b10 z y} hd hn => by
          have e := (upd_none.1 hn).1
          refine ⟨e, ?_⟩
          have := (hd b10).resolve_left (by rw [upd_same]; simp)
          rwa [del_ne _ e] at this
        simp (disch := omega) only [g3d, go_sem]
        refine DS.wr2 (WrF.call (chance_ok (n := 3) (upd_same emp b (srcC ex code a s)) (by omega) hs2 (by omega)) ⟨[], rfl, rfl⟩) rfl ?_ ?_
        · rintro r sx ⟨v, a4, s4, w1, w2, w3, w4, rfl, rfl⟩ _
          rw [upd_upd]
          simp (disch := omega) only [go_sem]
          refine DS.wr2 (WrF.call (next_ok (n := 4) (upd_same emp b (srcC ex code a4 s4)) (by omega) ⟨w3, w4⟩) ⟨[], rfl, rfl⟩) rfl ?_ ?_
          · rintro r sx ⟨u, a5, s5, x1, _, x3, x4, x5, x6, x7, rfl, rfl⟩ _
            have hu := x3 (by omega)
            rw [upd_upd]
            simp (disch := omega) only [go_sem]
            refine DS.wr2 (WrF.call (clause_frz (vars := vars) (n := u) (upd_same emp b (srcC ex code a5 s5)) (by omega) ⟨x6, x7⟩ (by omega) (by omega)) ⟨[], rfl, rfl⟩) rfl ?_ ?_
            · rintro r sx ⟨xs, a6, s6, y1, _, y3, y4, y5, y6, y7, rfl, rfl⟩ _
              rw [upd_upd]
              simp (disch := omega) only [intsV, go_sem]
              refine DS.wrQ WrF.alloc rfl ?_
              rintro _ s9 ⟨b8, hb8, rfl, rfl⟩ hd9
              obtain ⟨f1, f2⟩ := hfree hd9 hb8
              refine ⟨v, a6, s6, xs, b8, ⟨by omega, by omega⟩, ⟨y6, y7⟩, ⟨by omega, y3⟩, f1, f2, rfl, ?_⟩
              (repeat' apply And.intro) <;> rfl
            · refine DS.wrQ WrF.alloc rfl ?_
              rintro _ s9 ⟨b8, hb8, rfl, rfl⟩ hd9
              obtain ⟨f1, f2⟩ := hfree hd9 hb8
              simp (disch := omega) only [go_sem]
              refine DS.wrQ (WrF.call (clause_frz (vars := vars) (n := u) (by rw [upd_ne _ _ f1.symm, upd_same]) (by omega) ⟨x6, x7⟩ (by omega) (by omega)) ⟨[], rfl, rfl⟩) rfl ?_
              rintro r sx ⟨xs, a6, s6, y1, _, y3, y4, y5, y6, y7, rfl, rfl⟩ _
              rw [upd_comm _ f1, upd_upd]
              simp (disch := omega) only [intsV, go_sem]
              refine ⟨v, a6, s6, xs, b8, ⟨by omega, by omega⟩, ⟨y6, y7⟩, ⟨by omega, y3⟩, f1, f2, rfl, ?_⟩
              (repeat' apply And.intro) <;> rfl
          · refine DS.wrQ WrF.alloc rfl ?_
            rintro _ s9 ⟨b8, hb8, rfl, rfl⟩ hd9
            obtain ⟨f1, f2⟩ := hfree hd9 hb8
            simp (disch := omega) only [go_sem]
            refine DS.wrQ (WrF.call (next_ok (n := 4) (by rw [upd_ne _ _ f1.symm, upd_same]) (by omega) ⟨w3, w4⟩) ⟨[], rfl, rfl⟩) rfl ?_
            rintro r sx ⟨u, a5, s5, x1, _, x3, x4, x5, x6, x7, rfl, rfl⟩ _
            have hu := x3 (by omega)
            rw [upd_comm _ f1, upd_upd]
            simp (disch := omega) only [go_sem]
            refine DS.wrQ (WrF.call (clause_frz (vars := vars) (n := u) (by rw [upd_ne _ _ f1.symm, upd_same]) (by omega) ⟨x6, x7⟩ (by omega) (by omega)) ⟨[], rfl, rfl⟩) rfl ?_
            rintro r sx ⟨xs, a6, s6, y1, _, y3, y4, y5, y6, y7, rfl, rfl⟩ _
            rw [upd_comm _ f1, upd_upd]
            simp (disch := omega) only [intsV, go_sem]
            refine ⟨v, a6, s6, xs, b8, ⟨by omega, by omega⟩, ⟨y6, y7⟩, ⟨by omega, y3⟩, f1, f2, rfl, ?_⟩
            (repeat' apply And.intro) <;> rfl
        · refine DS.wrQ WrF.alloc rfl ?_
          rintro _ s9 ⟨b8, hb8, rfl, rfl⟩ hd9
          obtain ⟨f1, f2⟩ := hfree hd9 hb8
          simp (disch := omega) only [go_sem]
          refine DS.wrQ (WrF.call (chance_ok (n := 3) (by rw [upd_ne _ _ f1.symm, upd_same]) (by omega) hs2 (by omega)) ⟨[], rfl, rfl⟩) rfl ?_
          rintro r sx ⟨v, a4, s4, w1, w2, w3, w4, rfl, rfl⟩ _
          rw [upd_comm _ f1, upd_upd]
          simp (disch := omega) only [go_sem]
          refine DS.wrQ (WrF.call (next_ok (n := 4) (by rw [upd_ne _ _ f1.symm, upd_same]) (by omega) ⟨w3, w4⟩) ⟨[], rfl, rfl⟩) rfl ?_
          rintro r sx ⟨u, a5, s5, x1, _, x3, x4, x5, x6, x7, rfl, rfl⟩ _
          have hu := x3 (by omega)
          rw [upd_comm _ f1, upd_upd]
          simp (disch := omega) only [go_sem]
          refine DS.wrQ (WrF.call (clause_frz (vars := vars) (n := u) (by rw [upd_ne _ _ f1.symm, upd_same]) (by omega) ⟨x6, x7⟩ (by omega) (by omega)) ⟨[], rfl, rfl⟩) rfl ?_
          rintro r sx ⟨xs, a6, s6, y1, _, y3, y4, y5, y6, y7, rfl, rfl⟩ _
          rw [upd_comm _ f1, upd_upd]
          simp (disch := omega) only [intsV, go_sem]
          refine ⟨v, a6, s6, xs, b8, ⟨by omega, by omega⟩, ⟨y6, y7⟩, ⟨by omega, y3⟩, f1, f2, rfl, ?_⟩
          (repeat' apply And.intro) <;> rfl
      rintro T s' ⟨v, a4, s4, xs, b8, ha4, hs4, hxs, f1, f2, rfl, k0, k3, k5, k7, k8, k36⟩
      rw [cup_del2 f1, upd_upd]
      have e83 : b8 ≠ b3 := fun e => by subst e; rw [hS a s] at f2; cases f2
      have m8 := upd_same (upd B b (srcC ex code a4 s4)) b8 [.bool false, .isl true 0 []]
      simp (disch := omega) only [k8, k36, m8, go_sem]
      have M3 : ∀ a s Y, upd (upd B b (srcC ex code a s)) b8 Y b3 = some [.int .i64 vars, .isl false 1 (clsV cls)] := fun a s Y => by rw [upd_ne _ _ e83.symm]; exact hS a s
      have Mb : ∀ a s Y, upd (upd B b (srcC ex code a s)) b8 Y b = some (srcC ex code a s) := fun a s Y => by rw [upd_ne _ _ f1.symm, upd_same]
      have M8 : ∀ a s Y, upd (upd B b (srcC ex code a s)) b8 Y b8 = some Y := fun a s Y => upd_same _ _ _
      have Mu : ∀ a s a' s' Y, upd (upd (upd B b (srcC ex code a s)) b8 Y) b (srcC ex code a' s') = upd (upd B b (srcC ex code a' s')) b8 Y := fun a s a' s' Y => by rw [upd_comm _ f1, upd_upd]
      cases v
      case' false =>
        simp (disch := omega) only [k0, k5, go_sem]
        obtain ⟨v2, a5, s5, xs2, hv5, hs5, hx5, hss⟩ : ∃ v2 a5 s5 xs2, (a ≤ a5 ∧ a5 ≤ a + 40) ∧ (0 ≤ s5 ∧ s5 < 2147483648) ∧ (xs2.length ≤ 12 ∧ ∀ x ∈ xs2, litOK vars x) ∧ upd (upd B b (srcC ex code a4 s4)) b8 [.bool false, .isl false 1 (ints xs)] = upd (upd B b (srcC ex code a5 s5)) b8 [.bool v2, .isl false 1 (ints xs2)] := ⟨false, a4, s4, xs, by omega, hs4, hxs, rfl⟩
      case' true =>
        simp (disch := omega) only [k0, k3, k5, M3, clsV_len, go_sem]
        by_cases hpos : (cls.length : Int) > 0
        case' neg =>
          have d2 := decide_eq_false hpos
          simp (disch := omega) only [d2, k0, k5, go_sem]
          obtain ⟨v2, a5, s5, xs2, hv5, hs5, hx5, hss⟩ : ∃ v2 a5 s5 xs2, (a ≤ a5 ∧ a5 ≤ a + 40) ∧ (0 ≤ s5 ∧ s5 < 2147483648) ∧ (xs2.length ≤ 12 ∧ ∀ x ∈ xs2, litOK vars x) ∧ upd (upd B b (srcC ex code a4 s4)) b8 [.bool true, .isl false 1 (ints xs)] = upd (upd B b (srcC ex code a5 s5)) b8 [.bool v2, .isl false 1 (ints xs2)] := ⟨true, a4, s4, xs, by omega, hs4, hxs, rfl⟩
        case' pos =>
          have d2 := decide_eq_true hpos
          simp (disch := omega) only [d2, k0, k5, go_sem]
          refine SRun.callQ (chance_ok (n := 2) (Mb _ _ _) (by omega) hs4 (by omega)) ⟨[], rfl, rfl⟩ rfl ?_
          rintro r s9 ⟨w, a6, s6, z1, z2, z3, z4, rfl, rfl⟩
          rw [Mu]
          cases w
          case' false =>
            simp (disch := omega) only [k0, k5, go_sem]
            obtain ⟨v2, a5, s5, xs2, hv5, hs5, hx5, hss⟩ : ∃ v2 a5 s5 xs2, (a ≤ a5 ∧ a5 ≤ a + 40) ∧ (0 ≤ s5 ∧ s5 < 2147483648) ∧ (xs2.length ≤ 12 ∧ ∀ x ∈ xs2, litOK vars x) ∧ upd (upd B b (srcC ex code a6 s6)) b8 [.bool true, .isl false 1 (ints xs)] = upd (upd B b (srcC ex code a5 s5)) b8 [.bool v2, .isl false 1 (ints xs2)] := ⟨true, a6, s6, xs, by omega, ⟨z3, z4⟩, hxs, rfl⟩
          case' true =>
            simp (disch := omega) only [k0, k3, k5, M3, go_sem]
            rw [W_draw]
            refine DRun.start (DRun.mix1 (Mb _ _ _) rfl ?_)
            have g3e : ∀ Y, del (upd (upd B b (srcC ex code a6 s6)) b8 Y) b b3 = some [.int .i64 vars, .isl false 1 (clsV cls)] := fun Y => by rw [del_ne _ e3]; exact M3 _ _ _
            simp (disch := omega) only [k0, k3, g3e, clsV_len, go_sem]
            refine DS.callQ (next_ok (upd_same emp b (srcC ex code a6 s6)) (by omega) ⟨z3, z4⟩) ⟨[], rfl, rfl⟩ rfl ?_
            rintro r sx ⟨j, a7, s7, p1, _, p3, p4, p5, p6, p7, rfl, rfl⟩ _
            have hj := p3 (by omega)
            rw [upd_upd]
            simp (disch := omega) only [go_sem]
            refine ⟨_, rfl, ?_⟩
            rw [Mu]
            obtain ⟨j, rfl⟩ : ∃ j' : Nat, j = j' := ⟨j.toNat, by omega⟩
            have hcj := hc _ (getD_mem [] (by omega : j < cls.length))
            simp (disch := omega) only [k8, k0, k5, M8, intsV, go_sem]
            obtain ⟨v2, a5, s5, xs2, hv5, hs5, hx5, hss⟩ : ∃ v2 a5 s5 xs2, (a ≤ a5 ∧ a5 ≤ a + 40) ∧ (0 ≤ s5 ∧ s5 < 2147483648) ∧ (xs2.length ≤ 12 ∧ ∀ x ∈ xs2, litOK vars x) ∧ upd (upd B b (srcC ex code a7 s7)) b8 [.bool true, .isl false 1 (ints (cls.getD j []))] = upd (upd B b (srcC ex code a5 s5)) b8 [.bool v2, .isl false 1 (ints xs2)] := ⟨true, a7, s7, cls.getD j [], by omega, ⟨p6, p7⟩, hcj, rfl⟩
      all_goals
        refine SRun.freeze (σ' := upd (upd B b (srcC ex code a5 s5)) b8 [.bool v2, .isl false 1 (ints xs2)]) (T' := [(0, .ptr b 0), (3, .ptr b3 0), (5, .isl e 2 (stepsV out)), (7, .int .i64 (m : Nat)), (8, .ptr b8 0), (59, .ptr b 0), (62, .int .i64 ((out.length : Int) + 1))]) (by rw [hss]; exact fun _ _ h => h) ⟨?_, ?_, ?_, ?_, ?_, ?_, ?_, trivial⟩ ?_
        · simp only [look_cons, Nat.reduceEqDiff, ↓reduceIte, k0]; exact .refl _
        · simp only [look_cons, Nat.reduceEqDiff, ↓reduceIte, k3]; exact .refl _
        · simp only [look_cons, Nat.reduceEqDiff, ↓reduceIte, k5]; exact .refl _
        · simp only [look_cons, Nat.reduceEqDiff, ↓reduceIte, k7]; exact .refl _
        · simp only [look_cons, Nat.reduceEqDiff, ↓reduceIte, k8]; exact .refl _
        · simp only [look_cons, Nat.reduceEqDiff, ↓reduceIte]; exact .refl _
        · simp only [look_cons, Nat.reduceEqDiff, ↓reduceIte]; exact .refl _
        clear hss k0 k3 k5 k7 k8 k36
        refine SRun.callQ (next_ok (Mb _ _ _) (by omega) hs5) ⟨[], rfl, rfl⟩ rfl ?_
        rintro r sx ⟨kk, a8, s8, q1, _, q3, q4, q5, q6, q7, rfl, rfl⟩
        have hkk := q3 (by omega)
        rw [Mu]
        obtain ⟨kk, rfl⟩ : ∃ k' : Nat, kk = k' := ⟨kk.toNat, by omega⟩
        simp (disch := omega) only [go_sem]
        have t1 : List.take ((kk : Int) - 0).toNat (stepsV out) = stepsV (out.take kk) := by rw [show ((kk : Int) - 0).toNat = kk by omega]; simp [stepsV, List.map_take]
        have t2 : List.take ((out.length : Int) - kk).toNat (List.drop kk (stepsV out)) = stepsV (out.drop kk) := by rw [List.take_of_length_le (by rw [List.length_drop, stepsV_len]; omega)]; simp [stepsV, List.map_drop]
        have hx1 : ∀ y ∈ [V.agg [.bool v2, .isl false 1 (ints xs2)]], y.cells.length = 2 ∧ ∀ c ∈ y.cells, c.one = true := stepsV_ok [(v2, xs2)]
        rw [W_draw]
        refine DRun.start (DRun.mixN rfl ?_)
        simp (disch := omega) only [M8, go_sem]
        refine DS.wrQ (WrF.appL (OwnL.nil (σ0 := emp) 2 2) (congrArg (V.isl _ 2) t1) (stepsV_ok (out.take kk)) (by simp only [stepsV_len, List.length_nil, List.length_take]; omega)) rfl ?_
        intro w1 y1 hr1 _
        have hr1' := OwnL.of_app (OwnL.nil (σ0 := emp) 2 2) (stepsV_ok (out.take kk)) hr1
        rw [List.nil_append] at hr1'
        simp (disch := omega) only [go_sem]
        refine DS.wrQ (WrF.appL hr1' rfl hx1 (by simp only [stepsV_len, List.length_take, List.length_singleton]; omega)) rfl ?_
        intro w2 y2 hr2 hdj
        have hr2' := OwnL.of_app hr1' hx1 hr2
        have hr2e : stepsV (out.take kk) ++ [V.agg [.bool v2, .isl false 1 (ints xs2)]] = stepsV (out.take kk ++ [(v2, xs2)]) := steps_app _ (v2, xs2)
        rw [hr2e] at hr2'
        have hr3 := ownL_join hr2' hdj
        simp (disch := omega) only [go_sem]
        refine DRun.appL hr3 (congrArg (V.isl _ 2) t2) (stepsV_ok (out.drop kk)) (by simp only [stepsV_len, List.length_append, List.length_take, List.length_singleton, List.length_drop]; omega) ?_
        intro w3 y3 hr4
        have he : stepsV (out.take kk ++ [(v2, xs2)]) ++ stepsV (out.drop kk) = stepsV (out.take kk ++ [(v2, xs2)] ++ out.drop kk) := by simp [stepsV]
        rw [he] at hr4
        have hnl : (out.take kk ++ [(v2, xs2)] ++ out.drop kk).length = out.length + 1 := by simp only [List.length_append, List.length_take, List.length_singleton, List.length_drop]; omega
        have hok2 := hok.ins (k := kk) (x := (v2, xs2)) hx5
        generalize out.take kk ++ [(v2, xs2)] ++ out.drop kk = out2 at *
        simp (disch := omega) only [go_sem]
        have n8 : upd B b (srcC ex code a8 s8) b8 = none := by rw [upd_ne _ _ f1]; rw [upd_ne _ _ f1] at f2; exact f2
        obtain ⟨s9, r1, r2⟩ := hr4.drop n8
        obtain ⟨m, rfl⟩ : ∃ m', m = m' + 1 := ⟨m - 1, by omega⟩
        have hm1 : (((m + 1 : Nat) : Int) - 1) = (m : Int) := by omega
        refine W_freezeL (σ' := upd B b (srcC ex code a8 s8)) (T' := [(0, .ptr b 0), (3, .ptr b3 0), (5, .isl false 2 (stepsV out2)), (7, .int .i64 (m : Nat))]) (fun c x h => r1 c x (r2.le c x h)) (by
          refine ⟨.refl _, .refl _, ?_, ?_, trivial⟩
          · exact hr4.frz (fun _ _ => rfl) (fun c hc => (upd_none.1 hc).2)
          · rw [← hm1]; exact .refl _) ?_
        exact ih (m, false, out2, a8, s8) _ _ ⟨by simp only; omega, by simp only; omega, hok2, ⟨by simp only; omega, by simp only; omega⟩, ⟨q6, q7⟩⟩ (by simp only; omega) (by simp (disch := omega) only [subT, Int.natCast_add, Int.cast_ofNat_Int, go_sem] <;> (repeat' apply And.intro) <;> first | rfl | (congr 1; omega) | assumption) rfl
    · simp (disch := omega) only [go_sem]
      exact W_retC c45_ok (r := .isl e 2 (stepsV out)) (r' := .isl false 2 (stepsV out)) (σ' := upd σ b (srcC ex code a s)) rfl ⟨hfin a s, .isl _ _ _⟩ ⟨out, a, s, by omega, hok, rfl, rfl⟩
end
section
attribute [local irreducible] SRun DS DRun
variable {Γ : St} {σ σ0 : St}
theorem stepsOf_ok {ex : Bool} {code : List UInt8} {vars : Int} {cls : List (List Int)} (hl : code.length ≤ 140737488355328) (hv : 1 ≤ vars) (hcn : cnfB vars cls = true) :
    ACalls Tryd.prog Γ 17 [codeV ex code, cnfV vars cls] σ fun r σ' => ∃ out, out.length ≤ 202 ∧ StepsOK vars out ∧ r = .isl false 2 (stepsV out) ∧ σ' = σ := by
  obtain ⟨hc, hv0, hv40, hcl⟩ := clsOK_of hcn
  refine acalls_W c17_ok rfl ?_
  simp (disch := omega) only [c17, codeV, cnfV, go_sem]
  refine SRun.boxR (by simp [ev, look, V.cells, V.one]) ?_
  intro b3 hb3
  have g3 := upd_same σ b3 [.int .i64 vars, .isl false 1 (clsV cls)]
  have hle := le_upd (cs := [.int .i64 vars, .isl false 1 (clsV cls)]) hb3
  simp (disch := omega) only [go_sem]
  generalize upd σ b3 [.int .i64 vars, .isl false 1 (clsV cls)] = s3 at *
  rw [W_draw]
  refine DRun.start (DRun.mixN rfl ?_)
  simp (disch := omega) only [g3, go_sem]
  refine DS.callQ (source_ok (σ := emp) (ex := ex) (code := code) hl) ⟨[], rfl, rfl⟩ rfl ?_
  rintro r s2 ⟨b, s, hb, h1, h2, rfl, rfl⟩ hd
  have hb2 := disj_new hd
  simp (disch := omega) only [go_sem]
  rw [cup_new]
  refine DRun.callQ (steps_ok (upd_same _ _ _) ⟨h1, h2⟩ ⟨hv, hv40⟩ (cl_of hcn) hcl hcn) ⟨[], rfl, rfl⟩ ?_
  rintro r s4 ⟨out, a', s', q1, q2, rfl, rfl⟩
  rw [upd_upd]
  simp (disch := omega) only [go_sem]
  exact W_retC c17_ok rfl (Conv.drop _ fun c x h => le_upd hb2 _ _ (hle c x h)) ⟨out, q1, q2, rfl, rfl⟩
end
end Go.Proofs.YtlojopaebdnacaaDoor.Lg
