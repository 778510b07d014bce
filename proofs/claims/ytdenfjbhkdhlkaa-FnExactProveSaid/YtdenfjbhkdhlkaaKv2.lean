/- What is told of the functions that are reached, as far as it is asked here. -/
import Derived.Test.YtdenfjbhkdhlkaaKv1
import Derived.Test.YtdenfjbhkdhlkaaLgL
import Derived.KernelRfl
set_option linter.unusedSimpArgs false
set_option linter.unusedVariables false
namespace Go.Proofs.Ytdenfjbhkdhlkaa.Lg
open Go
section
attribute [local irreducible] SRun DS DRun
variable {Γ : St} {σ σ0 : St}
/-- What is said of a least model, or of none. -/
def leastA : Option (List Int) → List Bool × Int
 | none => ([], 6)
 | some v => (valsB v, 0)
end
section
attribute [local irreducible] SRun DS DRun
variable {Γ : St} {σ σ0 : St}
theorem l01Abs_lit {vars x : Int} (hx : litOK vars x) (hv : vars ≤ 1000000) : Ret Try.prog Γ 89 [.int .i64 x] σ (.int .i64 (x.natAbs : Int)) σ := l01Abs_ok (by have := hx.2; omega)
theorem setT_pos {vals : List Int} {x : Int} (h : 0 < x) : setT vals x = vals.set x.toNat 1 := by unfold setT; rw [if_neg (by omega)]
theorem setT_neg {vals : List Int} {x : Int} (h : x < 0) : setT vals x = vals.set (-x).toNat (-1) := by unfold setT; rw [if_pos h]
theorem ints_set {xs : List Int} {i : Nat} {y : Int} : (ints xs).set i (.int .i64 y) = ints (xs.set i y) := by simp [ints, List.map_set]
theorem l02Set_ok {vars x : Int} {vals : List Int} {bv n cap : Nat} (h : σ bv = some (ints vals)) (hn : n = vals.length) (hl : (vals.length : Int) = vars + 1) (hx : litOK vars x) (hv : vars ≤ 1000000) :
  Ret Try.prog Γ 53 [.msl bv 1 0 n cap, .int .i64 x] σ (.tup []) (upd σ bv (ints (setT vals x))) := by
 obtain ⟨hx0, hx1, hx2⟩ := hx
 have hil : (ints vals).length = vals.length := ints_len _
 refine ret_of c53_ok rfl ?_
 simp (disch := omega) only [c53, go_sem]
 first | refine iteW_dec (fun hq => ?_) (fun hq => ?_) | refine iteW_of (fun hq => ?_) (fun hq => ?_)
 ·simp (disch := omega) only [h, go_sem]
  refine W_fallR c53_ok rfl ⟨rfl, ?_⟩
  rw [ints_set, setT_pos (by omega)]
 ·simp (disch := omega) only [h, go_sem]
  refine W_fallR c53_ok rfl ⟨rfl, ?_⟩
  rw [ints_set, setT_neg (by omega), show (0 - x).toNat = (-x).toNat by omega]
/-- What the reference tells of a clause. -/
def clGo (vals : List Int) : List Int → Int → Int → Bool × Int × Int
 | [], op, one => (false, op, one)
 | x :: r, op, one => bif isT vals x then (true, 0, 0) else bif !isT vals (-x) && x != one then clGo vals r (op + 1) x else clGo vals r op one
theorem val_cases {vals : List Int} {vars x : Int} (hl : (vals.length : Int) = vars + 1) (ht : tri vals) (hx : litOK vars x) :
  (vals.getD x.natAbs 0 = 0 ∧ isT vals x = false ∧ isT vals (-x) = false) ∨ (vals.getD x.natAbs 0 = (if x < 0 then -1 else 1) ∧ isT vals x = true ∧ isT vals (-x) = false) ∨ (vals.getD x.natAbs 0 = (if x < 0 then 1 else -1) ∧ isT vals x = false ∧ isT vals (-x) = true) := by
 have hlt : x.natAbs < vals.length := by have := hx.2; omega
 have hm := ht _ (getD_mem 0 hlt)
 have h0 := hx.1
 rw [isT_val h0, isT_val (x := -x) (by omega), Int.natAbs_neg]
 generalize vals.getD x.natAbs 0 = v at hm
 by_cases hneg : x < 0
 ·rw [if_pos hneg, if_neg (by omega : ¬ -x < 0), if_pos hneg]
  rcases hm with rfl | rfl | rfl <;> simp
 ·rw [if_neg hneg, if_pos (by omega : -x < 0), if_neg hneg]
  rcases hm with rfl | rfl | rfl <;> simp
theorem l02Clause_ok {ex : Bool} {vars : Int} {c vals : List Int} {bv n cap : Nat} (h : σ bv = some (ints vals)) (hn : n = vals.length) (hl : (vals.length : Int) = vars + 1) (ht : tri vals) (hc : ∀ x ∈ c, litOK vars x) (hv : vars ≤ 1000000) (hcl : c.length ≤ 1000000) :
  Ret Try.prog Γ 74 [.isl ex 1 (ints c), .msl bv 1 0 n cap] σ (.tup [.bool (clGo vals c 0 0).1, .int .i64 (clGo vals c 0 0).2.1, .int .i64 (clGo vals c 0 0).2.2]) σ := by
 have hil : (ints vals).length = vals.length := ints_len _
 generalize hR : clGo vals c 0 0 = R
 refine ret_of c74_ok rfl ?_
 simp (disch := omega) only [c74, go_sem]
 refine W_loopC (fun p : Nat × Int × Int => p.1 ≤ c.length ∧ 0 ≤ p.2.1 ∧ p.2.1 ≤ p.1 ∧ clGo vals (c.drop p.1) p.2.1 p.2.2 = R) (fun p => [(0, .isl ex 1 (ints c)), (1, .msl bv 1 0 n cap), (7, .int .i64 p.2.1), (8, .int .i64 p.2.2), (9, .int .i64 p.1)])
  (fun _ => σ) (fun p => c.length - p.1) (0, 0, 0) ⟨by omega, by simp, by simp, hR⟩ (by simp (disch := omega) only [subT, Int.natCast_add, Int.cast_ofNat_Int, go_sem] <;> (repeat' apply And.intro) <;> first | rfl | (congr 1; omega) | assumption) rfl ?_
 rintro ⟨i, op, one⟩ ⟨hi, ho0, ho1, hgo⟩ ih
 dsimp only at hi ho0 ho1 hgo ⊢
 simp (disch := omega) only [go_sem]
 first | refine iteW_dec (fun hq => ?_) (fun hq => ?_) | refine iteW_of (fun hq => ?_) (fun hq => ?_)
 ·have hx := hc _ (getD_mem 0 (by omega : i < c.length))
  rw [drop_cons 0 (by omega)] at hgo
  simp only [clGo] at hgo
  simp (disch := omega) only [go_sem]
  generalize hxe : c.getD i 0 = x at hx hgo ⊢
  have hx2 := hx.2
  have hcases := val_cases hl ht hx
  have hget : (ints vals)[x.natAbs]? = some (.int .i64 (vals.getD x.natAbs 0)) := ints_get (getD_some 0 (by omega))
  refine SRun.callR (l01Abs_lit hx hv) ⟨[], rfl, rfl⟩ rfl ?_
  simp (disch := omega) only [List.getD_cons_zero, List.getD_cons_succ, go_sem]
  simp (disch := omega) only [h, hget, hxe, go_sem]
  generalize vals.getD x.natAbs 0 = v at hcases ⊢
  have hv1 : v = 0 ∨ v = 1 ∨ v = -1 := by
   rcases hcases with h | h | h
   ·exact .inl h.1
   ·have := h.1; split at this <;> omega
   ·have := h.1; split at this <;> omega
  first | refine iteW_dec (fun hneg => ?_) (fun hneg => ?_) | refine iteW_of (fun hneg => ?_) (fun hneg => ?_)
  ·rw [if_pos hneg, if_pos hneg] at hcases
   simp (disch := omega) only [hxe, go_sem]
   first | refine iteW_dec (fun h1 => ?_) (fun h1 => ?_) | refine iteW_of (fun h1 => ?_) (fun h1 => ?_)
   ·have : isT vals x = true := by rcases hcases with h | h | h <;> first | omega | exact h.2.1
    rw [this] at hgo
    simp (disch := omega) only [hxe, go_sem]
    refine W_retR c74_ok rfl ⟨?_, rfl⟩
    rw [← hgo]; rfl
   ·simp (disch := omega) only [go_sem]
    first | refine guardW_dec (fun h2 => ?_) (fun h2 => ?_) | refine guardW_by (fun h2 => ?_) (fun h2 => ?_)
    ·have e : isT vals x = false ∧ isT vals (-x) = false := by rcases hcases with h | h | h <;> first | omega | exact h.2
     rw [e.1, e.2] at hgo
     simp (disch := omega) only [hxe, go_sem]
     first | refine iteW_dec (fun h3 => ?_) (fun h3 => ?_) | refine iteW_of (fun h3 => ?_) (fun h3 => ?_)
     ·have : (x != one) = true := by simp; omega
      rw [this] at hgo
      simp (disch := omega) only [hxe, go_sem]
      refine ih (i + 1, op + 1, x) _ _ ⟨by simp only; omega, by simp only; omega, by simp only; omega, hgo⟩ (by simp only; omega) (by simp (disch := omega) only [subT, Int.natCast_add, Int.cast_ofNat_Int, go_sem] <;> (repeat' apply And.intro) <;> first | rfl | (congr 1; omega) | assumption) rfl
     ·have : (x != one) = false := by simp; omega
      rw [this] at hgo
      simp (disch := omega) only [hxe, go_sem]
      refine ih (i + 1, op, one) _ _ ⟨by simp only; omega, by simp only; omega, by simp only; omega, hgo⟩ (by simp only; omega) (by simp (disch := omega) only [subT, Int.natCast_add, Int.cast_ofNat_Int, go_sem] <;> (repeat' apply And.intro) <;> first | rfl | (congr 1; omega) | assumption) rfl
    ·have e : isT vals x = false ∧ isT vals (-x) = true := by rcases hcases with h | h | h <;> first | omega | exact h.2
     rw [e.1, e.2] at hgo
     simp (disch := omega) only [hxe, go_sem]
     refine ih (i + 1, op, one) _ _ ⟨by simp only; omega, by simp only; omega, by simp only; omega, hgo⟩ (by simp only; omega) (by simp (disch := omega) only [subT, Int.natCast_add, Int.cast_ofNat_Int, go_sem] <;> (repeat' apply And.intro) <;> first | rfl | (congr 1; omega) | assumption) rfl
  ·rw [if_neg hneg, if_neg hneg] at hcases
   simp (disch := omega) only [hxe, go_sem]
   first | refine iteW_dec (fun h1 => ?_) (fun h1 => ?_) | refine iteW_of (fun h1 => ?_) (fun h1 => ?_)
   ·have : isT vals x = true := by rcases hcases with h | h | h <;> first | omega | exact h.2.1
    rw [this] at hgo
    simp (disch := omega) only [hxe, go_sem]
    refine W_retR c74_ok rfl ⟨?_, rfl⟩
    rw [← hgo]; rfl
   ·simp (disch := omega) only [go_sem]
    first | refine guardW_dec (fun h2 => ?_) (fun h2 => ?_) | refine guardW_by (fun h2 => ?_) (fun h2 => ?_)
    ·have e : isT vals x = false ∧ isT vals (-x) = false := by rcases hcases with h | h | h <;> first | omega | exact h.2
     rw [e.1, e.2] at hgo
     simp (disch := omega) only [hxe, go_sem]
     first | refine iteW_dec (fun h3 => ?_) (fun h3 => ?_) | refine iteW_of (fun h3 => ?_) (fun h3 => ?_)
     ·have : (x != one) = true := by simp; omega
      rw [this] at hgo
      simp (disch := omega) only [hxe, go_sem]
      refine ih (i + 1, op + 1, x) _ _ ⟨by simp only; omega, by simp only; omega, by simp only; omega, hgo⟩ (by simp only; omega) (by simp (disch := omega) only [subT, Int.natCast_add, Int.cast_ofNat_Int, go_sem] <;> (repeat' apply And.intro) <;> first | rfl | (congr 1; omega) | assumption) rfl
     ·have : (x != one) = false := by simp; omega
      rw [this] at hgo
      simp (disch := omega) only [hxe, go_sem]
      refine ih (i + 1, op, one) _ _ ⟨by simp only; omega, by simp only; omega, by simp only; omega, hgo⟩ (by simp only; omega) (by simp (disch := omega) only [subT, Int.natCast_add, Int.cast_ofNat_Int, go_sem] <;> (repeat' apply And.intro) <;> first | rfl | (congr 1; omega) | assumption) rfl
    ·have e : isT vals x = false ∧ isT vals (-x) = true := by rcases hcases with h | h | h <;> first | omega | exact h.2
     rw [e.1, e.2] at hgo
     simp (disch := omega) only [hxe, go_sem]
     refine ih (i + 1, op, one) _ _ ⟨by simp only; omega, by simp only; omega, by simp only; omega, hgo⟩ (by simp only; omega) (by simp (disch := omega) only [subT, Int.natCast_add, Int.cast_ofNat_Int, go_sem] <;> (repeat' apply And.intro) <;> first | rfl | (congr 1; omega) | assumption) rfl
 ·rw [List.drop_of_length_le (by omega)] at hgo
  simp (disch := omega) only [go_sem]
  refine W_retR c74_ok rfl ⟨?_, rfl⟩
  rw [← hgo]; rfl
/-- The reference and the program tell the same of a clause. -/
theorem clGo_many {vals : List Int} : ∀ {c : List Int} {op one : Int}, 2 ≤ op → (clGo vals c op one).1 = true ∨ 2 ≤ (clGo vals c op one).2.1 := by
 intro c
 induction c with
 | nil => intro op one h; exact .inr h
 | cons x r ih =>
  intro op one h
  simp only [clGo]
  cases isT vals x with
  | true => exact .inl rfl
  | false =>
   simp only [cond_false]
   cases (!isT vals (-x) && x != one) with
   | true => exact ih (by omega)
   | false => exact ih h
/-- What the program makes of it. -/
def unitOf (A : Bool × Int × Int) : Int × Bool := bif A.1 then (0, false) else if A.2.1 = 0 then (0, true) else if A.2.1 = 1 then (A.2.2, false) else (0, false)
theorem clGo_unit {vals : List Int} : ∀ {c : List Int} {op one : Int}, (∀ x ∈ c, x ≠ 0) → (op = 0 ∧ one = 0) ∨ (op = 1 ∧ one ≠ 0) →
  unitGo vals c one = unitOf (clGo vals c op one) := by
 intro c
 induction c with
 | nil =>
  intro op one _ h
  rcases h with ⟨rfl, rfl⟩ | ⟨rfl, h⟩
  ·rfl
  ·simp [unitGo, clGo, unitOf, h]
 | cons x r ih =>
  intro op one hne h
  have hx := hne x (by simp)
  have hne' : ∀ y ∈ r, y ≠ 0 := fun y hy => hne y (by simp [hy])
  simp only [unitGo, clGo]
  cases h1 : isT vals x with
  | true => rfl
  | false =>
   simp only [cond_false]
   cases h2 : isT vals (-x) with
   | true => simp only [Bool.true_or, cond_true, Bool.not_true, Bool.false_and, cond_false]; exact ih hne' h
   | false =>
    simp only [Bool.false_or, Bool.not_false, Bool.true_and]
    by_cases hxo : x = one
    ·subst hxo
     simp only [beq_self_eq_true, cond_true, bne_self_eq_false, cond_false]
     exact ih hne' h
    ·have e1 : (x == one) = false := by simpa using hxo
     have e2 : (x != one) = true := by simpa using hxo
     rw [e1, e2]
     simp only [cond_false, cond_true]
     rcases h with ⟨rfl, rfl⟩ | ⟨rfl, h⟩
     ·simp only [bne_self_eq_false, cond_false]
      exact ih hne' (.inr ⟨rfl, hx⟩)
     ·have e3 : (one != 0) = true := by simpa using h
      rw [e3]
      simp only [cond_true]
      have hm := clGo_many (vals := vals) (c := r) (op := 1 + 1) (one := x) (by omega)
      generalize clGo vals r (1 + 1) x = A at hm
      obtain ⟨p, q, s⟩ := A
      dsimp only at hm
      cases p with
      | true => rfl
      | false =>
       have hq : 2 ≤ q := by rcases hm with h | h <;> first | exact h | cases h
       simp only [unitOf, cond_false]
       rw [if_neg (by omega), if_neg (by omega)]
section
variable {P : Program} {f : FuncId} {n : Nat} {Q : V → St → Prop} {k : List It} {T : Ts} {g : GI} {l : List GI}
theorem stepW_iaddr_cls {ex : Bool} {cls : List (List Int)} {kk : IntKind} {m : Int} (h0 : 0 ≤ m) (h1 : m < cls.length) : stepW P Γ f n Q (.iaddr 1 (.c (.isl ex 1 (clsV cls))) (.c (.int kk m))) g l k T σ = W P Γ f n Q (.ops l :: k) (putT T g.d (.iptr [intsV (cls.getD m.toNat [])])) σ := stepW_iaddr_map h0 h1
theorem stepK_iaddr_cls {K : V → St → Prop} {ex : Bool} {cls : List (List Int)} {kk : IntKind} {m : Int} (h0 : 0 ≤ m) (h1 : m < cls.length) : stepK (.iaddr 1 (.c (.isl ex 1 (clsV cls))) (.c (.int kk m))) σ K = K (.iptr [intsV (cls.getD m.toNat [])]) σ := stepK_iaddr_map h0 h1
end
attribute [go_sem] stepW_iaddr_cls stepK_iaddr_cls clsV_len
theorem l02Run_ok {ex : Bool} {vars : Int} {cls : List (List Int)} {vals : List Int} {bv n cap : Nat} (h : σ bv = some (ints vals)) (hn : n = vals.length) (hl : (vals.length : Int) = vars + 1) (ht : tri vals) (hv : vars ≤ 1000000) (hc : ClsOK vars cls) :
  Ret Try.prog Γ 52 [.isl ex 1 (clsV cls), .msl bv 1 0 n cap] σ (.tup [intsV (propGo cls (zeros vals + 1) vals []).1, .int .i64 (propGo cls (zeros vals + 1) vals []).2.1]) (upd σ bv (ints (propGo cls (zeros vals + 1) vals []).2.2)) := by
 generalize hR : propGo cls (zeros vals + 1) vals [] = R
 have hcl := hc.1.1
 refine ret_of c52_ok rfl ?_
 simp (disch := omega) only [c52, go_sem]
 refine W_loopC (fun p : List Int × List Int × V × St => p.1.length = vals.length ∧ tri p.1 ∧ p.2.1.length + zeros p.1 ≤ vals.length ∧ propGo cls (zeros p.1 + 1) p.1 p.2.1 = R ∧ OwnL (upd σ bv (ints p.1)) 1 (ints p.2.1) p.2.2.1 p.2.2.2) (fun p => [(0, .isl ex 1 (clsV cls)), (1, .msl bv 1 0 n cap), (6, p.2.2.1)])
  (fun p => p.2.2.2) (fun p => zeros p.1) (vals, [], _, _) ⟨rfl, ht, ?_, hR, by rw [upd_self σ h]; exact OwnL.nil 1 1⟩ (by simp (disch := omega) only [subT, Int.natCast_add, Int.cast_ofNat_Int, go_sem] <;> (repeat' apply And.intro) <;> first | rfl | (congr 1; omega) | assumption) rfl ?_
 ·have : zeros vals ≤ (vals.drop 1).length := List.count_le_length
  simp at this ⊢; omega
 rintro ⟨v2, list, r6, σ1⟩ ⟨hlv, ht2, hlz, hgo, ho⟩ ih
 dsimp only at hlv ht2 hlz hgo ho ⊢
 have hb := ho.get (upd_same σ bv _)
 have hl2 : (v2.length : Int) = vars + 1 := by omega
 simp (disch := omega) only [go_sem]
 refine W_loopC (fun p : Nat × Int => p.1 ≤ cls.length ∧ scanGo v2 cls 0 0 = scanGo v2 (cls.drop p.1) p.1 p.2) (fun p => [(0, .isl ex 1 (clsV cls)), (1, .msl bv 1 0 n cap), (6, r6), (7, .int .i64 p.2), (8, .int .i64 p.1)])
  (fun _ => σ1) (fun p => cls.length - p.1) (0, 0) ⟨by omega, rfl⟩ (by simp (disch := omega) only [subT, Int.natCast_add, Int.cast_ofNat_Int, go_sem] <;> (repeat' apply And.intro) <;> first | rfl | (congr 1; omega) | assumption) rfl ?_
 rintro ⟨i, next⟩ ⟨hi, hsc⟩ ih2
 dsimp only at hi hsc ⊢
 simp (disch := omega) only [go_sem]
 first | refine iteW_dec (fun hq => ?_) (fun hq => ?_) | refine iteW_of (fun hq => ?_) (fun hq => ?_)
 ·have hmem := getD_mem [] (by omega : i < cls.length)
  have hlit := hc.2 _ hmem
  have hsm := hc.1.2 _ hmem
  rw [drop_cons [] (by omega)] at hsc
  simp only [scanGo] at hsc
  simp (disch := omega) only [go_sem]
  generalize cls.getD i [] = c at hlit hsm hsc
  have hu := clGo_unit (vals := v2) (c := c) (op := 0) (one := 0) (fun x hx => (hlit x hx).1) (.inl ⟨rfl, rfl⟩)
  refine SRun.callR (l02Clause_ok (ex := false) (vars := vars) (c := c) hb (by omega) hl2 ht2 hlit hv hsm) ⟨[], rfl, rfl⟩ rfl ?_
  simp (disch := omega) only [List.getD_cons_zero, List.getD_cons_succ, go_sem]
  obtain ⟨okk, op, one, hA⟩ : ∃ p q s, clGo v2 c 0 0 = (p, q, s) := ⟨_, _, _, rfl⟩
  simp only [hA, unitOf] at hu ⊢
  rw [hu] at hsc
  first | refine iteW_dec (fun h1 => ?_) (fun h1 => ?_) | refine iteW_of (fun h1 => ?_) (fun h1 => ?_)
  ·subst h1
   simp only [cond_true, cond_false] at hsc
   have e : (bif next == 0 then 0 else next) = next := by cases hn0 : next == 0 <;> simp at hn0 ⊢; omega
   rw [e] at hsc
   simp (disch := omega) only [go_sem]
   refine ih2 (i + 1, next) _ _ ⟨by simp only; omega, hsc⟩ (by simp only; omega) (by simp (disch := omega) only [subT, Int.natCast_add, Int.cast_ofNat_Int, go_sem] <;> (repeat' apply And.intro) <;> first | rfl | (congr 1; omega) | assumption) rfl
  ·subst h1
   simp only [cond_false] at hsc
   simp (disch := omega) only [go_sem]
   first | refine iteW_dec (fun h2 => ?_) (fun h2 => ?_) | refine iteW_of (fun h2 => ?_) (fun h2 => ?_)
   ·rw [if_pos h2] at hsc
    simp only [cond_true] at hsc
    simp (disch := omega) only [go_sem]
    simp only [propGo, hsc] at hgo
    subst hgo
    exact W_retC c52_ok rfl ⟨ho.le, frz_tup (by exact ⟨ho.conv.2, .refl _, trivial⟩)⟩ ⟨rfl, rfl⟩
   ·rw [if_neg h2] at hsc
    simp (disch := omega) only [go_sem]
    first | refine guardW_dec (fun h3 => ?_) (fun h3 => ?_) | refine guardW_by (fun h3 => ?_) (fun h3 => ?_)
    ·rw [if_pos h3] at hsc
     simp only [cond_false] at hsc
     simp (disch := omega) only [go_sem]
     first | refine iteW_dec (fun h4 => ?_) (fun h4 => ?_) | refine iteW_of (fun h4 => ?_) (fun h4 => ?_)
     ·have e : (next == 0) = true := by simpa using h4
      rw [e] at hsc
      simp only [cond_true] at hsc
      simp (disch := omega) only [go_sem]
      refine ih2 (i + 1, one) _ _ ⟨by simp only; omega, hsc⟩ (by simp only; omega) (by simp (disch := omega) only [subT, Int.natCast_add, Int.cast_ofNat_Int, go_sem] <;> (repeat' apply And.intro) <;> first | rfl | (congr 1; omega) | assumption) rfl
     ·have e : (next == 0) = false := by simpa using h4
      rw [e] at hsc
      simp only [cond_false] at hsc
      simp (disch := omega) only [go_sem]
      refine ih2 (i + 1, next) _ _ ⟨by simp only; omega, hsc⟩ (by simp only; omega) (by simp (disch := omega) only [subT, Int.natCast_add, Int.cast_ofNat_Int, go_sem] <;> (repeat' apply And.intro) <;> first | rfl | (congr 1; omega) | assumption) rfl
    ·rw [if_neg h3] at hsc
     simp only [cond_false] at hsc
     have e : (bif next == 0 then 0 else next) = next := by cases hn0 : next == 0 <;> simp at hn0 ⊢; omega
     rw [e] at hsc
     simp (disch := omega) only [go_sem]
     refine ih2 (i + 1, next) _ _ ⟨by simp only; omega, hsc⟩ (by simp only; omega) (by simp (disch := omega) only [subT, Int.natCast_add, Int.cast_ofNat_Int, go_sem] <;> (repeat' apply And.intro) <;> first | rfl | (congr 1; omega) | assumption) rfl
 ·rw [List.drop_of_length_le (by omega)] at hsc
  simp only [scanGo] at hsc
  simp (disch := omega) only [go_sem]
  first | refine iteW_dec (fun hd => ?_) (fun hd => ?_) | refine iteW_of (fun hd => ?_) (fun hd => ?_)
  ·have e : (next == 0) = true := by simpa using hd
   simp only [propGo, hsc, e, cond_true] at hgo
   subst hgo
   simp (disch := omega) only [go_sem]
   exact W_retC c52_ok rfl ⟨ho.le, frz_tup (by exact ⟨ho.conv.2, .refl _, trivial⟩)⟩ ⟨rfl, rfl⟩
  ·have e : (next == 0) = false := by simpa using hd
   have hfr := scanGo_free (vals := v2) (cls := cls) (i := 0) (next := 0) (.inl rfl)
   rw [hsc] at hfr
   obtain ⟨hf, hin⟩ := hfr.resolve_left hd
   obtain ⟨c, hcm, hnm⟩ := hin.resolve_right hd
   have hlo := hc.2 c hcm next hnm
   have hz := zeros_set hl2 ht2 hlo hf
   simp (disch := omega) only [go_sem]
   refine SRun.callR (l02Set_ok hb (by omega) hl2 hlo hv) ⟨[], rfl, rfl⟩ rfl ?_
   simp (disch := omega) only [List.getD_cons_zero, List.getD_cons_succ, go_sem]
   have ho2 := ho.upd (c' := ints (setT v2 next)) (upd_same _ bv _)
   rw [upd_upd] at ho2
   refine SRun.appL ho2 rfl (by simp [V.cells, V.one]) (by simp [ints]; omega) ?_
   intro r σ4 ho4
   rw [ints_app] at ho4
   simp (disch := omega) only [go_sem]
   refine ih (setT v2 next, list ++ [next], r, σ4) _ _ ⟨by simp only [setT_length]; exact hlv, tri_set ht2 _, by simp; omega, ?_, ho4⟩ (by simp only; omega) (by simp (disch := omega) only [subT, Int.natCast_add, Int.cast_ofNat_Int, go_sem] <;> (repeat' apply And.intro) <;> first | rfl | (congr 1; omega) | assumption) rfl
   rw [show zeros v2 + 1 = (zeros (setT v2 next) + 1) + 1 by omega] at hgo
   rw [propGo] at hgo
   simp only [hsc, e, cond_false] at hgo
   exact hgo
theorem findZ_at {vals : List Int} {i : Nat} (h1 : 1 ≤ i) (hi : i < vals.length) (h0 : vals.getD i 0 = 0) (hb : ∀ j, 1 ≤ j → j < i → vals.getD j 0 ≠ 0) : findZ (vals.drop 1) 0 = (i : Int) - 1 := by
 have hf : (vals.drop 1).findIdx? (· == 0) = some (i - 1) := by
  rw [List.findIdx?_eq_some_iff_getElem]
  refine ⟨by simp; omega, ?_, fun j hj => ?_⟩
  ·have e : 1 + (i - 1) = i := by omega
   have : vals[i] = 0 := by simpa [List.getD, hi] using h0
   have e' : i - 1 + 1 = i := by omega
   simp [e, e', this]
  ·have := hb (j + 1) (by omega) (by omega)
   have hj2 : j + 1 < vals.length := by omega
   simp only [List.getD, hj2, List.getElem?_eq_getElem, Option.getD_some] at this
   simpa [Nat.add_comm 1 j] using this
 unfold findZ
 rw [hf]
 simp only; omega
theorem findZ_no {vals : List Int} (hb : ∀ j, 1 ≤ j → j < vals.length → vals.getD j 0 ≠ 0) : findZ (vals.drop 1) 0 = -1 := by
 have hf : (vals.drop 1).findIdx? (· == 0) = none := by
  rw [List.findIdx?_eq_none_iff]
  intro x hx
  obtain ⟨j, hj, rfl⟩ := List.getElem_of_mem hx
  simp only [List.length_drop] at hj
  have := hb (j + 1) (by omega) (by omega)
  have hj2 : j + 1 < vals.length := by omega
  simp only [List.getD, hj2, List.getElem?_eq_getElem, Option.getD_some] at this
  simpa [Nat.add_comm 1 j] using this
 unfold findZ; rw [hf]
theorem src_own {vals : List Int} {bv n cap : Nat} (h : σ bv = some (ints vals)) (hn : n = vals.length) : srcV σ 1 (.msl bv 1 0 n cap) = some (flat (ints vals), (ints vals).length) := by
 subst hn
 simp only [srcV, if_true, h, flat_ints, ints_len, Nat.zero_add, Nat.mul_one, Nat.le_refl, List.drop_zero]
 rw [List.take_of_length_le (by rw [ints_len]; exact Nat.le_refl _)]
theorem l02Least_ok {ex : Bool} {vars : Int} {cls : List (List Int)} (hv : 0 ≤ vars ∧ vars ≤ 1000000) (hc : ClsOK vars cls) : ∀ (fu : Nat) (σ : St) (vals : List Int) (bv n cap : Nat), zeros vals < fu → σ bv = some (ints vals) → n = vals.length → (vals.length : Int) = vars + 1 → tri vals →
  ACalls Try.prog Γ 33 [.isl ex 1 (clsV cls), .msl bv 1 0 n cap] σ fun r σ' => σ' = σ ∧ ((solveP cls fu vals = none ∧ r = .tup [intsV [], .bool false]) ∨ ∃ v, solveP cls fu vals = some v ∧ r = .tup [intsV v, .bool true]) := by
 intro fu
 induction fu with
 | zero => intro σ vals bv n cap hz; omega
 | succ fu ihf =>
  intro σ vals bv n cap hz hb hn hl ht
  generalize hS : solveP cls (fu + 1) vals = S
  obtain ⟨k1, k2, k3⟩ := propGo_keeps hc (zeros vals + 1) vals [] hl ht
  refine acalls_W c33_ok rfl ?_
  simp (disch := omega) only [c33, go_sem]
  refine SRun.appS (OwnL.nil 1 1) (src_own hb hn) (ints_ok _) (by simp only [List.length_nil, ints_len]; omega) ?_
  intro r6 σ1 ho
  rw [List.nil_append] at ho
  obtain ⟨b6, cap6, rfl, hb6, hcap6, hn6, rfl⟩ := ho.at (by intro e; have := congrArg List.length e; simp [ints] at this; rw [this] at hl; simp at hl; omega)
  rw [flat_ints, ints_len] at *
  simp (disch := omega) only [go_sem]
  refine SRun.callR (l02Run_ok (ex := ex) hb6 rfl hl ht hv.2 hc) ⟨[], rfl, rfl⟩ rfl ?_
  simp (disch := omega) only [List.getD_cons_zero, List.getD_cons_succ, go_sem]
  simp only [solveP] at hS
  generalize propGo cls (zeros vals + 1) vals [] = R at k1 k2 k3 hS
  obtain ⟨lst, ix, v2⟩ := R
  dsimp only at k1 k2 k3 hS ⊢
  rw [← k1]
  have hl2 : (v2.length : Int) = vars + 1 := by omega
  have hle : ∀ x, ∀ c y, σ c = some y → upd σ b6 x c = some y := fun x => le_upd hn6
  first | refine iteW_dec (fun hq => ?_) (fun hq => ?_) | refine iteW_of (fun hq => ?_) (fun hq => ?_)
  ·have e : decide (ix ≥ 0) = true := decide_eq_true hq
   rw [e] at hS
   simp only [cond_true] at hS
   simp (disch := omega) only [go_sem]
   exact W_retC c33_ok (r := .tup [.isl true 0 [], .bool false]) rfl ⟨hle _, frz_tup (by exact ⟨frz_nil _ _, .refl _, trivial⟩)⟩ ⟨rfl, .inl ⟨hS.symm, rfl⟩⟩
  ·have e : decide (ix ≥ 0) = false := decide_eq_false hq
   rw [e] at hS
   simp only [cond_false] at hS
   simp (disch := omega) only [go_sem]
   have hil : (ints v2).length = v2.length := ints_len _
   refine W_loopC (fun i : Nat => 1 ≤ i ∧ i ≤ v2.length ∧ ∀ j, 1 ≤ j → j < i → v2.getD j 0 ≠ 0) (fun i => [(0, .isl ex 1 (clsV cls)), (6, .msl b6 1 0 v2.length cap6), (9, .int .i64 i)])
    (fun _ => upd σ b6 (ints v2)) (fun i => v2.length - i) 1 ⟨by omega, by omega, fun j h1 h2 => by omega⟩ (by simp (disch := omega) only [subT, Int.natCast_add, Int.cast_ofNat_Int, go_sem] <;> (repeat' apply And.intro) <;> first | rfl | (congr 1; omega) | assumption) rfl ?_
   rintro i ⟨h1, h2, hnz⟩ ih
   simp (disch := omega) only [go_sem]
   first | refine iteW_dec (fun hi => ?_) (fun hi => ?_) | refine iteW_of (fun hi => ?_) (fun hi => ?_)
   ·have hget : (ints v2)[i]? = some (.int .i64 (v2.getD i 0)) := ints_get (getD_some 0 (by omega))
    simp (disch := omega) only [hget, go_sem]
    first | refine iteW_dec (fun h0 => ?_) (fun h0 => ?_) | refine iteW_of (fun h0 => ?_) (fun h0 => ?_)
    ·simp (disch := omega) only [go_sem]
     refine ih (i + 1) _ _ ⟨by omega, by omega, fun j g1 g2 => ?_⟩ (by omega) (by simp (disch := omega) only [subT, Int.natCast_add, Int.cast_ofNat_Int, go_sem] <;> (repeat' apply And.intro) <;> first | rfl | (congr 1; omega) | assumption) rfl
     by_cases hji : j = i
     ·subst hji; exact h0
     ·exact hnz j g1 (by omega)
    ·have h0' : v2.getD i 0 = 0 := by omega
     have hz1 := findZ_at h1 (by omega) h0' hnz
     have hz2 : findZ (v2.drop 1) 0 + 1 = (i : Int) := by omega
     obtain ⟨hlit, _, hf1, hf2⟩ := findZ_get hl2 (by omega : findZ (v2.drop 1) 0 + 1 ≠ 0)
     rw [hz2] at hlit hf1 hf2 hS
     have e0 : ((i : Int) == 0) = false := by simp; omega
     rw [e0] at hS
     simp only [cond_false] at hS
     have hlitn : litOK vars (-(i : Int)) := litOK_neg hlit
     have hzs1 := zeros_set hl2 k2 hlitn hf2
     have hzs2 := zeros_set hl2 k2 hlit hf1
     have es1 : v2.set i (-1) = setT v2 (-(i : Int)) := by rw [setT_neg (by omega)]; congr 1; omega
     have es2 : v2.set i 1 = setT v2 (i : Int) := by rw [setT_pos (by omega)]; congr 1
     have hln : (setT v2 (-(i : Int))).length = v2.length := setT_length _ _
     have hln2 : (setT v2 (i : Int)).length = v2.length := setT_length _ _
     simp (disch := omega) only [ints_set, es1, go_sem]
     refine SRun.callQ (ihf _ (setT v2 (-(i : Int))) b6 v2.length cap6 (by omega) (upd_same _ _ _) hln.symm (by omega) (tri_set k2 _)) ⟨[], rfl, rfl⟩ rfl ?_
     rintro r s ⟨rfl, ⟨hn1, rfl⟩ | ⟨v, hs1, rfl⟩⟩
     ·rw [hn1] at hS
      dsimp only at hS
      have es3 : (setT v2 (-(i : Int))).set i 1 = setT v2 (i : Int) := by rw [← es1, List.set_set, es2]
      have hil2 : (ints (setT v2 (-(i : Int)))).length = v2.length := by rw [ints_len, hln]
      simp (disch := omega) only [ints_set, es3, go_sem]
      refine SRun.callQ (ihf _ (setT v2 (i : Int)) b6 v2.length cap6 (by omega) (upd_same _ _ _) hln2.symm (by omega) (tri_set k2 _)) ⟨[], rfl, rfl⟩ rfl ?_
      rintro r s ⟨rfl, ⟨hn2, rfl⟩ | ⟨v, hs2, rfl⟩⟩
      ·rw [hn2] at hS
       simp (disch := omega) only [go_sem]
       exact W_retC c33_ok rfl (Conv.drop _ (hle _)) ⟨rfl, .inl ⟨hS.symm, rfl⟩⟩
      ·rw [hs2] at hS
       simp (disch := omega) only [go_sem]
       exact W_retC c33_ok rfl (Conv.drop _ (hle _)) ⟨rfl, .inr ⟨v, hS.symm, rfl⟩⟩
     ·rw [hs1] at hS
      dsimp only at hS
      simp (disch := omega) only [go_sem]
      exact W_retC c33_ok rfl (Conv.drop _ (hle _)) ⟨rfl, .inr ⟨v, hS.symm, rfl⟩⟩
   ·have hz1 := findZ_no (vals := v2) fun j g1 g2 => hnz j g1 (by omega)
    rw [hz1] at hS
    simp at hS
    simp (disch := omega) only [go_sem]
    refine W_retC c33_ok (r := .tup [.msl b6 1 0 v2.length cap6, .bool true]) (r' := .tup [intsV v2, .bool true]) rfl ⟨hle _, frz_tup (by exact ⟨frz_row (upd_same _ _ _) hn6 hil (ints_one _), .refl _, trivial⟩)⟩ ⟨rfl, .inr ⟨v2, hS.symm, rfl⟩⟩
end
section
attribute [local irreducible] SRun DS DRun
variable {Γ : St} {σ σ0 : St}
theorem zeroVals_len {vars : Int} (hv : 0 ≤ vars) : ((zeroVals vars).length : Int) = vars + 1 := by simp only [zeroVals, List.length_replicate]; omega
theorem zeroVals_tri (vars : Int) : tri (zeroVals vars) := fun x hx => by have := List.eq_of_mem_replicate hx; omega
theorem zeroVals_flat {vars : Int} {N : Nat} (hN : vars + 1 = N) : (List.replicate N [V.int IntKind.i64 0]).flatten = ints (zeroVals vars) := by
 have : (vars + 1).toNat = N := by omega
 simp [zeroVals, this, ints]
theorem specLeast_ok {vars : Int} {cls : List (List Int)} (hb : cnfB vars cls = true) :
  Ret Try.prog Γ 15 [cnfV vars cls] σ (.tup [boolsV (leastA (modelP vars cls)).1, .int .i64 (leastA (modelP vars cls)).2]) σ := by
 obtain ⟨hc, hv0, hv40, hcl⟩ := clsOK_of hb
 obtain ⟨N, hN⟩ : ∃ N : Nat, vars + 1 = N := ⟨(vars + 1).toNat, by omega⟩
 have hl0 := zeroVals_len hv0
 have hz0 : zeros (zeroVals vars) < vars.toNat + 2 := by
  have : zeros (zeroVals vars) ≤ ((zeroVals vars).drop 1).length := List.count_le_length
  simp only [List.length_drop] at this
  omega
 refine ret_of c15_ok rfl ?_
 simp (disch := omega) only [c15, cnfV, go_sem]
 refine SRun.boxR (by simp [ev, look, V.cells, V.one]) ?_
 intro b1 hb1
 simp (disch := omega) only [go_sem]
 refine SRun.callR (cnfOK_ok hb) ⟨[], rfl, rfl⟩ rfl ?_
 simp (disch := omega) only [go_sem]
 rw [W_draw]
 refine DRun.start (DRun.mixN rfl ?_)
 simp (disch := omega) only [hN, go_sem]
 refine DS.wrQ (WrF.mksl (n' := N) (m := N) rfl rfl rfl (Nat.le_refl _) (by omega) (by omega)) rfl ?_
 rintro r s ⟨b7, _, rfl, rfl⟩ hd
 have hb7 := disj_new hd
 have hn7 := upd_none.1 hb7
 simp (disch := omega) only [cup_new, go_sem]
 rw [zeroVals_flat hN]
 refine DRun.callQ (l02Least_ok (ex := false) (by omega) hc (vars.toNat + 2) _ (zeroVals vars) b7 N N hz0 (upd_same _ b7 _) (by omega) hl0 (zeroVals_tri _)) ⟨[], rfl, rfl⟩ ?_
 have hle : ∀ x, ∀ c y, σ c = some y → upd (upd σ b1 [.int .i64 vars, .isl false 1 (clsV cls)]) b7 x c = some y := fun x c y h => le_upd hb7 _ _ (le_upd hb1 _ _ h)
 rintro r s ⟨rfl, ⟨hs, rfl⟩ | ⟨v, hs, rfl⟩⟩
 ·have hm : modelP vars cls = none := hs
  rw [hm]
  simp (disch := omega) only [go_sem]
  exact W_retC c15_ok (r := .tup [.isl true 1 [], .int .i64 6]) (r' := .tup [boolsV [], .int .i64 6]) rfl ⟨hle _, frz_tup (by exact ⟨frz_nil _ _, .refl _, trivial⟩)⟩ ⟨rfl, rfl⟩
 ·have hm : modelP vars cls = some v := hs
  rw [hm]
  have hvl := (solveP_len hc _ _ _ hl0 (zeroVals_tri _) hs).1
  simp (disch := omega) only [intsV, go_sem]
  refine W_loopC (fun p : Nat × V × St => 1 ≤ p.1 ∧ p.1 ≤ v.length ∧ OwnL (upd (upd σ b1 [.int .i64 vars, .isl false 1 (clsV cls)]) b7 (ints (zeroVals vars))) 1 (bools ((valsB v).take (p.1 - 1))) p.2.1 p.2.2) (fun p => [(4, .isl false 1 (ints v)), (6, p.2.1), (7, .int .i64 p.1)])
   (fun p => p.2.2) (fun p => v.length - p.1) (1, _, _) ⟨by simp, by simp only; omega, OwnL.nil 1 1⟩ (by simp (disch := omega) only [subT, Int.natCast_add, Int.cast_ofNat_Int, go_sem] <;> (repeat' apply And.intro) <;> first | rfl | (congr 1; omega) | assumption) rfl ?_
  rintro ⟨i, r6, σ1⟩ ⟨h1, h2, ho⟩ ih
  dsimp only at h1 h2 ho ⊢
  simp (disch := omega) only [go_sem]
  first | refine iteW_dec (fun hq => ?_) (fun hq => ?_) | refine iteW_of (fun hq => ?_) (fun hq => ?_)
  ·simp (disch := omega) only [go_sem]
   have hbl : (bools ((valsB v).take (i - 1))).length ≤ 1000 := by simp [bools, valsB]; omega
   refine SRun.appL ho rfl (by simp [V.cells, V.one]) (by simp only [List.length_cons, List.length_nil]; omega) ?_
   intro r σ4 ho4
   simp (disch := omega) only [go_sem]
   refine ih (i + 1, r, σ4) _ _ ⟨by simp only; omega, by simp only; omega, ?_⟩ (by simp only; omega) (by simp (disch := omega) only [subT, Int.natCast_add, Int.cast_ofNat_Int, go_sem] <;> (repeat' apply And.intro) <;> first | rfl | (congr 1; omega) | assumption) rfl
   have hlv : (valsB v).length = v.length - 1 := by simp [valsB]
   have e1 : (valsB v).getD (i - 1) false = (v.getD i 0 == 1) := by
    have : i - 1 + 1 = i := by omega
    have hi : i < v.length := by omega
    simp [valsB, List.getD, this, hi]
   have e2 : bools ((valsB v).take (i + 1 - 1)) = bools ((valsB v).take (i - 1)) ++ [.bool (decide (v.getD i 0 = 1))] := by
    rw [show i + 1 - 1 = (i - 1) + 1 by omega, take_succ false (by omega), e1, int_beq]; simp [bools]
   rw [e2]; exact ho4
  ·have hlv : (valsB v).length = v.length - 1 := by simp [valsB]
   rw [List.take_of_length_le (by omega)] at ho
   simp (disch := omega) only [go_sem]
   refine W_retC c15_ok (r := .tup [r6, .int .i64 0]) (r' := .tup [boolsV (valsB v), .int .i64 0]) rfl ⟨fun c y h => ho.le _ _ (hle _ c y h), frz_tup (by
    refine ⟨ho.frz (fun _ _ => rfl) (fun b hb => ?_), .refl _, trivial⟩
    exact (upd_none.1 (upd_none.1 hb).2).2)⟩ ⟨rfl, rfl⟩
end
section
attribute [local irreducible] SRun DS DRun
variable {Γ : St} {σ σ0 : St}
theorem growI1_ok {n : Int} (hn : 0 ≤ n ∧ n ≤ 1000000000) : ACalls Try.prog Γ 88 [.isl true 1 [], .int .i64 n] σ fun r σ' => Own0 σ 1 r σ' := by
 obtain ⟨m, rfl⟩ : ∃ m : Nat, n = m := ⟨n.toNat, by omega⟩
 refine acalls_W c88_ok rfl ?_
 simp (disch := omega) only [c88, go_sem]
 first | refine iteW_dec (fun h => ?_) (fun h => ?_) | refine iteW_of (fun h => ?_) (fun h => ?_)
 ·simp (disch := omega) only [Int.sub_zero, go_sem]
  refine SRun.appz0 (n' := m) (es' := 1) rfl rfl (by omega) rfl (by omega) ?_
  intro b cap hb hcap
  have hne : ¬ ((cap : Int) = 0) := by omega
  simp (disch := omega) only [hne, Int.sub_zero, go_sem]
  exact W_retR c88_ok rfl (.inr ⟨b, cap, _, hb, rfl, rfl⟩)
 ·simp (disch := omega) only [go_sem]
  exact W_retR c88_ok rfl (.inl ⟨rfl, _, rfl⟩)
theorem growI_ok {es' : Nat} {n : Int} (hn : 0 ≤ n ∧ n ≤ 1000000000) : ACalls Try.prog Γ 88 [.isl true es' [], .int .i64 n] σ fun r σ' => Own0 σ 1 r σ' :=
 ACalls.pre (args' := [.isl true 1 [], .int .i64 n]) (fun _ _ h => h) rfl (frzL_get (by exact ⟨.isl0 _ _ _ _ (fun h => h), .refl _, trivial⟩)) (growI1_ok hn)
end
end Go.Proofs.Ytdenfjbhkdhlkaa.Lg
