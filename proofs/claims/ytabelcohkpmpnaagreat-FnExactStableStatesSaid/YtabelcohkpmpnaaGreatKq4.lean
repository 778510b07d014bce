/- What is told of the functions that are reached, as far as it is asked here. -/
import Derived.Test.YtabelcohkpmpnaaGreatKq3
import Derived.KernelRfl
set_option linter.unusedSimpArgs false
set_option linter.unusedVariables false
namespace Go.Proofs.YtabelcohkpmpnaaGreat.Lg
open Go
section
attribute [local irreducible] SRun DS DRun
variable {Γ : St} {σ σ0 : St}
theorem isNaNInt_ok {x : Int} : Ret Tryz.prog Γ 170 [.int .i64 x] σ (.bool false) σ := by
 have h : (decide ¬ x = x) = false := by simp
 refine ret_of c170_ok rfl ?_
 simp (disch := omega) only [c170, h, go_sem]
 refine W_retR c170_ok rfl ⟨?_, rfl⟩
 rfl
def cmpP (a b : Int) : Int := if a < b then -1 else if b < a then 1 else 0
theorem compareInt_ok {a b : Int} : Ret Tryz.prog Γ 169 [.int .i64 a, .int .i64 b] σ (.int .i64 (cmpP a b)) σ := by
 refine ret_of c169_ok rfl ?_
 simp (disch := omega) only [c169, go_sem]
 refine SRun.callR isNaNInt_ok ⟨[], rfl, rfl⟩ rfl ?_
 simp (disch := omega) only [go_sem]
 refine SRun.callR isNaNInt_ok ⟨[], rfl, rfl⟩ rfl ?_
 unfold cmpP
 simp (disch := omega) only [go_sem]
 first | refine iteW_dec (fun h1 => ?_) (fun h1 => ?_) | refine iteW_of (fun h1 => ?_) (fun h1 => ?_)
 ·rw [if_pos h1]
  simp (disch := omega) only [go_sem]
  exact W_retR c169_ok rfl ⟨rfl, rfl⟩
 rw [if_neg h1]
 simp (disch := omega) only [go_sem]
 first | refine iteW_dec (fun h2 => ?_) (fun h2 => ?_) | refine iteW_of (fun h2 => ?_) (fun h2 => ?_)
 ·rw [if_pos (by omega)]
  simp (disch := omega) only [go_sem]
  exact W_retR c169_ok rfl ⟨rfl, rfl⟩
 ·rw [if_neg (by omega)]
  simp (disch := omega) only [go_sem]
  exact W_retR c169_ok rfl ⟨rfl, rfl⟩
def orP : List Int → Int
 | [] => 0
 | x :: r => if x ≠ 0 then x else orP r
theorem orInt_ok {ex : Bool} {xs : List Int} (hl : xs.length ≤ 1000000000000) : Ret Tryz.prog Γ 168 [.isl ex 1 (ints xs)] σ (.int .i64 (orP xs)) σ := by
 refine ret_of c168_ok rfl ?_
 simp (disch := omega) only [c168, go_sem]
 refine W_loopC (α := Nat) (fun i => i ≤ xs.length ∧ orP xs = orP (xs.drop i)) (fun i => [(3, .int .i64 0), (6, .isl ex 1 (ints xs)), (7, .int .i64 xs.length), (8, .int .i64 (i : Nat))]) (fun _ => σ) (fun i => xs.length - i) 0 ⟨by omega, rfl⟩ (by simp (disch := omega) only [subT, Int.natCast_add, Int.cast_ofNat_Int, go_sem] <;> (repeat' apply And.intro) <;> first | rfl | (congr 1; omega) | assumption) rfl ?_
 rintro i ⟨hi, he⟩ ih
 simp (disch := omega) only [go_sem]
 first | refine iteW_dec (fun h1 => ?_) (fun h1 => ?_) | refine iteW_of (fun h1 => ?_) (fun h1 => ?_)
 ·rw [drop_cons (xs := xs) 0 (by omega), orP] at he
  simp (disch := omega) only [go_sem]
  first | refine iteW_dec (fun h2 => ?_) (fun h2 => ?_) | refine iteW_of (fun h2 => ?_) (fun h2 => ?_)
  ·rw [if_pos h2] at he
   rw [he]
   simp (disch := omega) only [go_sem]
   exact W_retR c168_ok rfl ⟨rfl, rfl⟩
  ·rw [if_neg h2] at he
   simp (disch := omega) only [go_sem]
   exact ih (i + 1) _ _ ⟨by omega, he⟩ (by omega) (by simp (disch := omega) only [subT, Int.natCast_add, Int.cast_ofNat_Int, go_sem] <;> (repeat' apply And.intro) <;> first | rfl | (congr 1; omega) | assumption) rfl
 ·have hil : i = xs.length := by omega
  rw [hil, List.drop_length] at he
  rw [he]
  simp (disch := omega) only [go_sem]
  exact W_retR c168_ok rfl ⟨rfl, rfl⟩
theorem cmpP_lt {a b : Int} (h : a < b) : cmpP a b = -1 := if_pos h
theorem cmpP_eq {a b : Int} (h : a = b) : cmpP a b = 0 := by unfold cmpP; rw [if_neg (by omega), if_neg (by omega)]
theorem cmpP_gt {a b : Int} (h : b < a) : cmpP a b = 1 := by unfold cmpP; rw [if_neg (by omega), if_pos h]
theorem better_or (a b : Rt) : decide (orP [cmpP b.pref a.pref, cmpP a.len b.len, cmpP a.via b.via] < 0) = betterP a b := by
 unfold betterP
 rcases Int.lt_trichotomy b.pref a.pref with h1 | h1 | h1
 ·rw [cmpP_lt h1, if_pos (by omega), decide_eq_true h1]; rfl
 ·rw [cmpP_eq h1, if_neg (by omega)]
  rcases Int.lt_trichotomy a.len b.len with h2 | h2 | h2
  ·rw [cmpP_lt h2, if_pos (by omega), decide_eq_true h2]; rfl
  ·rw [cmpP_eq h2, if_neg (by omega)]
   rcases Int.lt_trichotomy a.via b.via with h3 | h3 | h3
   ·rw [cmpP_lt h3, decide_eq_true h3]; rfl
   ·rw [cmpP_eq h3, decide_eq_false (by omega : ¬ a.via < b.via)]; rfl
   ·rw [cmpP_gt h3, decide_eq_false (by omega : ¬ a.via < b.via)]; rfl
  ·rw [cmpP_gt h2, if_pos (by omega), decide_eq_false (by omega : ¬ a.len < b.len)]; rfl
 ·rw [cmpP_gt h1, if_pos (by omega), decide_eq_false (by omega : ¬ b.pref < a.pref)]; rfl
theorem isBetter_ok {a b : Rt} : Ret Tryz.prog Γ 159 [.agg (rtC a), .agg (rtC b)] σ (.bool (betterP a b)) σ := by
 refine ret_of c159_ok rfl ?_
 simp (disch := omega) only [c159, rtC, go_sem]
 refine SRun.boxR (by simp [ev, look, V.cells, V.one]) ?_
 intro b2 hb2
 simp (disch := omega) only [go_sem]
 refine SRun.boxR (by simp [ev, look, V.cells, V.one]) ?_
 intro b3 hb3
 have n32 := (upd_none.1 hb3).1
 have n3 := (upd_none.1 hb3).2
 have hle := le_two hb2 n3
 simp (disch := omega) only [n32.symm, go_sem]
 rw [W_draw]
 refine DRun.start (DRun.mixE rfl ?_)
 simp (disch := omega) only [n32.symm, go_sem]
 refine DS.callG (ACalls.mono _ _ (compareInt_ok (σ := emp)) fun _ _ h => h) ⟨[], rfl, rfl⟩ rfl rfl ?_
 rintro r s ⟨rfl, hs⟩ _
 obtain rfl := hs.symm
 simp (disch := omega) only [go_sem]
 refine DS.callG (ACalls.mono _ _ (compareInt_ok (σ := emp)) fun _ _ h => h) ⟨[], rfl, rfl⟩ rfl rfl ?_
 rintro r s ⟨rfl, hs⟩ _
 obtain rfl := hs.symm
 simp (disch := omega) only [go_sem]
 refine DRun.callQ (compareInt_ok) ⟨[], rfl, rfl⟩ ?_
 rintro r s ⟨rfl, hs⟩
 obtain rfl := hs.symm
 simp (disch := omega) only [go_sem]
 refine DRun.callQ (orInt_ok (ex := true) (xs := [cmpP b.pref a.pref, cmpP a.len b.len, cmpP a.via b.via]) (by simp)) ⟨[], rfl, rfl⟩ ?_
 rintro r s ⟨rfl, hs⟩
 obtain rfl := hs.symm
 rw [← better_or]
 simp (disch := omega) only [go_sem]
 exact W_retC c159_ok rfl (Conv.drop _ (hle _ _)) ⟨rfl, rfl⟩
theorem Mul64_ok {n : Nat} (hn : n ≤ 4) : Ret Tryz.prog Γ 167 [.int .u64 1, .int .u64 n] σ (.tup [.int .u64 0, .int .u64 n]) σ := by
 rcases (by omega : n = 0 ∨ n = 1 ∨ n = 2 ∨ n = 3 ∨ n = 4) with rfl | rfl | rfl | rfl | rfl
 all_goals
  refine ret_of c167_ok rfl ?_
  simp (disch := omega) only [c167, go_sem]
  exact W_retR c167_ok rfl ⟨rfl, rfl⟩
theorem stepK_eqaR {neg : Bool} {a b : Rt} {K : V → St → Prop} : stepK (.eqa neg [0, 0, 0, 1] (.c (.agg (rtC a))) (.c (.agg (rtC b)))) σ K = K (.bool (neg != decide (a = b))) σ := by
 rw [stepK_eqa]
 have h := rt_dec a b
 rw [← h]
 cases neg <;> simp [pureI, eqK, pureK, ev, int_beq, rtC]
theorem equalRt_ok {ex ex2 : Bool} {xs ys : List Rt} (hl : xs.length ≤ 1000000000) : Ret Tryz.prog Γ 112 [.isl ex 4 (rtsV xs), .isl ex2 4 (rtsV ys)] σ (.bool (decide (xs = ys))) σ := by
 refine ret_of c112_ok rfl ?_
 simp (disch := omega) only [c112, go_sem]
 by_cases c1 : xs.length = ys.length
 case' neg =>
  have d1 : (decide ¬ (xs.length : Int) = ys.length) = true := decide_eq_true (by omega)
  rw [decide_eq_false (fun e => c1 (by rw [e]))]
  simp (disch := omega) only [d1, go_sem]
  exact W_retR c112_ok rfl ⟨rfl, rfl⟩
 have d1 : (decide ¬ (xs.length : Int) = ys.length) = false := decide_eq_false (by omega)
 simp (disch := omega) only [d1, go_sem]
 refine W_loopC (α := Nat) (fun i => i ≤ xs.length ∧ ∀ j, j < i → xs.getD j default = ys.getD j default) (fun i => [(0, .isl ex 4 (rtsV xs)), (1, .isl ex2 4 (rtsV ys)), (11, .isl ex 4 (rtsV xs)), (12, .int .i64 xs.length), (13, .int .i64 (i : Nat))]) (fun _ => σ) (fun i => xs.length - i) 0 ⟨by omega, fun j hj => by omega⟩ (by simp (disch := omega) only [subT, Int.natCast_add, Int.cast_ofNat_Int, go_sem] <;> (repeat' apply And.intro) <;> first | rfl | (congr 1; omega) | assumption) rfl ?_
 rintro i ⟨hi, hall⟩ ih
 have hrt4 : ∀ r : Rt, (rtC r).take 4 = rtC r := fun _ => rfl
 have hrt5 : ∀ r : Rt, (rtC r).length = 4 := fun _ => rfl
 simp (disch := omega) only [go_sem]
 first | refine iteW_dec (fun h1 => ?_) (fun h1 => ?_) | refine iteW_of (fun h1 => ?_) (fun h1 => ?_)
 ·have hq := rt_dec (xs.getD i default) (ys.getD i default)
  simp (disch := omega) only [go_sem]
  refine W_drawW ?_
  simp (disch := omega) only [hrt4, hrt5, stepK_eqaR, bne_t, go_sem]
  first | refine iteW_dec (fun c2 => ?_) (fun c2 => ?_) | refine iteW_of (fun c2 => ?_) (fun c2 => ?_)
  ·rw [decide_eq_false (fun e => c2 (by rw [e]))]
   simp (disch := omega) only [go_sem]
   exact W_retR c112_ok rfl ⟨rfl, rfl⟩
  ·simp (disch := omega) only [go_sem]
   refine ih (i + 1) _ _ ⟨by omega, fun j hj => ?_⟩ (by omega) (by simp (disch := omega) only [subT, Int.natCast_add, Int.cast_ofNat_Int, go_sem] <;> (repeat' apply And.intro) <;> first | rfl | (congr 1; omega) | assumption) rfl
   by_cases e : j = i
   ·subst e; exact Decidable.not_not.1 c2
   ·exact hall j (by omega)
 ·have hil : i = xs.length := by omega
  subst hil
  have he : xs = ys := List.ext_getElem c1 fun j h1 h2 => by
   have := hall j h1
   simpa [List.getD, h1, h2] using this
  rw [decide_eq_true he]
  simp (disch := omega) only [go_sem]
  exact W_retR c112_ok rfl ⟨rfl, rfl⟩
theorem Mul_ok {n : Nat} (hn : n ≤ 4) : Ret Tryz.prog Γ 154 [.int .u64 1, .int .u64 n] σ (.tup [.int .u64 0, .int .u64 n]) σ := by
 refine ret_of c154_ok rfl ?_
 simp (disch := omega) only [c154, go_sem]
 refine SRun.callR (Mul64_ok hn) ⟨[], rfl, rfl⟩ rfl ?_
 simp (disch := omega) only [go_sem]
 exact W_retR c154_ok rfl ⟨rfl, rfl⟩
end
section
attribute [local irreducible] SRun DS DRun
variable {Γ : St} {σ σ0 : St}
theorem comesTo_ok {ex : Bool} {rs : List Rt} {from_ router : Int} (hl : rs.length ≤ 1000000000000) (hv : ViasIn rs) (hf : from_ < rs.length) (hr : 0 ≤ router) :
  Ret Tryz.prog Γ 158 [.isl ex 4 (rtsV rs), .int .i64 from_, .int .i64 router] σ (.bool (throughP rs from_ router)) σ := by
 rw [← com_same hv hr hf]
 refine ret_of c158_ok rfl ?_
 simp (disch := omega) only [c158, go_sem]
 refine W_loopC (α := Nat × Int) (fun p => p.1 ≤ rs.length + 1 ∧ p.2 < rs.length ∧ comP rs router (rs.length + 1) from_ = comP rs router (rs.length + 1 - p.1) p.2) (fun p => [(0, .isl ex 4 (rtsV rs)), (2, .int .i64 router), (7, .int .i64 p.2), (11, .int .i64 ((rs.length : Int) + 1)), (12, .int .i64 (p.1 : Nat))]) (fun _ => σ) (fun p => rs.length + 1 - p.1) (0, from_) ⟨by simp, hf, rfl⟩ (by simp (disch := omega) only [subT, Int.natCast_add, Int.cast_ofNat_Int, go_sem] <;> (repeat' apply And.intro) <;> first | rfl | (congr 1; omega) | assumption) rfl ?_
 rintro ⟨i, k⟩ ⟨hi, hk, he⟩ ih
 dsimp only at hi hk he
 simp (disch := omega) only [go_sem]
 first | refine iteW_dec (fun h1 => ?_) (fun h1 => ?_) | refine iteW_of (fun h1 => ?_) (fun h1 => ?_)
 ·obtain ⟨m, hm⟩ : ∃ m, rs.length + 1 - i = m + 1 := ⟨rs.length - i, by omega⟩
  rw [hm] at he
  rw [comP_succ rs router m k] at he
  simp (disch := omega) only [go_sem]
  first | refine iteW_dec (fun h2 => ?_) (fun h2 => ?_) | refine iteW_of (fun h2 => ?_) (fun h2 => ?_)
  ·rw [if_pos h2] at he
   rw [he]
   simp (disch := omega) only [go_sem]
   exact W_retR c158_ok rfl ⟨rfl, rfl⟩
  ·rw [if_neg h2] at he
   simp (disch := omega) only [go_sem]
   first | refine iteW_dec (fun h3 => ?_) (fun h3 => ?_) | refine iteW_of (fun h3 => ?_) (fun h3 => ?_)
   ·rw [if_pos h3] at he
    rw [he]
    simp (disch := omega) only [go_sem]
    exact W_retR c158_ok rfl ⟨rfl, rfl⟩
   ·rw [if_neg h3] at he
    have hvk := hv k
    have hrt : rs.getD k.toNat default = rtAt rs k := rfl
    have hrt0 : ∀ r : Rt, (rtC r)[0]? = some (.int .i64 r.via) := fun _ => rfl
    simp (disch := omega) only [hrt, hrt0, go_sem]
    exact ih (i + 1, (rtAt rs k).via) _ _ ⟨by simp only; omega, hvk, by rw [he]; congr 1; simp only; omega⟩ (by simp only; omega) (by simp (disch := omega) only [subT, Int.natCast_add, Int.cast_ofNat_Int, go_sem] <;> (repeat' apply And.intro) <;> first | rfl | (congr 1; omega) | assumption) rfl
 ·have hir : rs.length + 1 - i = 0 := by omega
  rw [hir] at he
  rw [he]
  simp (disch := omega) only [go_sem]
  exact W_retR c158_ok rfl ⟨rfl, rfl⟩
def ownR : Rt := ⟨-2, 200, 0, false⟩
theorem ownRoute_ok {n : Net} {r : Int} (ho : n.origins.length ≤ 1000000000000) : Ret Tryz.prog Γ 143 [netV n, .int .i64 r] σ (.tup [.agg (rtC ownR), .bool (decide (0 ≤ hasI n.origins r))]) σ := by
 have e2 : (netC n)[2]? = some (.isl false 1 (ints n.origins)) := rfl
 have hb : hasB n.origins r = decide (0 ≤ hasI n.origins r) := rfl
 refine ret_of c143_ok rfl ?_
 simp (disch := omega) only [c143, netV, go_sem]
 refine SRun.boxR (net_one n) ?_
 intro b2 hb2
 simp (disch := omega) only [go_sem]
 refine SRun.allocR ?_
 intro b4 hb4
 have n4 := upd_none.1 hb4
 have n24 : b2 ≠ b4 := n4.1.symm
 simp (disch := omega) only [e2, n24, go_sem]
 refine SRun.callR (containsInt_ok (ex := false) (xs := n.origins) (x := r) ho) ⟨[], rfl, rfl⟩ rfl ?_
 rw [hb]
 simp (disch := omega) only [go_sem]
 exact W_retC c143_ok (r := .tup [.agg (rtC ownR), .bool (decide (0 ≤ hasI n.origins r))]) (σ' := σ) (resV_cellT rfl (upd_same _ _ _) rfl rfl) (Conv.drop _ fun d x h => by
  have e2 : d ≠ b2 := fun e => by subst e; rw [hb2] at h; cases h
  have e4 : d ≠ b4 := fun e => by subst e; rw [n4.2] at h; cases h
  simp only [upd_ne _ _ e4, upd_ne _ _ e2]; exact h) ⟨rfl, rfl⟩
def outR (n : Net) (router : Int) (env : List Int) : Rt := if outB n router env then ⟨-1, 100, 2, decide (env.getD (hasI n.externals router).toNat 0 = 2)⟩ else ⟨0, 0, 0, false⟩
theorem outRoute_ok {n : Net} {ex : Bool} {env : List Int} {r : Int} (ho : n.externals.length ≤ 1000000000000) (he : env.length = n.externals.length) (hE : (env.all fun x => inB x 0 2) = true) : Ret Tryz.prog Γ 144 [netV n, .isl ex 1 (ints env), .int .i64 r] σ (.tup [.agg (rtC (outR n r env)), .bool (outB n r env)]) σ := by
 have e3 : (netC n)[3]? = some (.isl false 1 (ints n.externals)) := rfl
 have hx := hasI_in n.externals r
 refine ret_of c144_ok rfl ?_
 simp (disch := omega) only [c144, netV, go_sem]
 refine SRun.boxR (net_one n) ?_
 intro b3 hb3
 simp (disch := omega) only [go_sem]
 refine SRun.allocR ?_
 intro b6 hb6
 have n6 := upd_none.1 hb6
 have n36 : b3 ≠ b6 := n6.1.symm
 have hle : ∀ z z' : List V, ∀ d x, σ d = some x → upd (upd σ b3 z) b6 z' d = some x := fun z z' => le_two hb3 n6.2 z z'
 simp (disch := omega) only [e3, n36, go_sem]
 refine SRun.callR (indexInt_ok (ex := false) (xs := n.externals) (x := r) ho) ⟨[], rfl, rfl⟩ rfl ?_
 have hob : outB n r env = (decide (0 ≤ hasI n.externals r) && decide (0 < env.getD (hasI n.externals r).toNat 0)) := rfl
 have hor : outR n r env = if outB n r env then ⟨-1, 100, 2, decide (env.getD (hasI n.externals r).toNat 0 = 2)⟩ else ⟨0, 0, 0, false⟩ := rfl
 by_cases c1 : hasI n.externals r < 0
 ·have d1 : decide (hasI n.externals r < 0) = true := decide_eq_true c1
  rw [decide_eq_false (by omega : ¬ 0 ≤ hasI n.externals r)] at hob
  rw [hor, hob]
  simp (disch := omega) only [d1, go_sem]
  exact W_retC c144_ok (r := .tup [.agg (rtC ⟨0, 0, 0, false⟩), .bool false]) (σ' := σ) (resV_cellT rfl (upd_same _ _ _) rfl rfl) (Conv.drop _ fun d x h => by first | exact hle _ _ _ _ h | (rw [upd_upd]; exact hle _ _ _ _ h)) ⟨rfl, rfl⟩
 have d1 : decide (hasI n.externals r < 0) = false := decide_eq_false c1
 rw [decide_eq_true (by omega : 0 ≤ hasI n.externals r), Bool.true_and] at hob
 have hev := List.all_eq_true.1 hE _ (getD_mem 0 (by omega : (hasI n.externals r).toNat < env.length))
 simp only [inB, Bool.and_eq_true, decide_eq_true_eq] at hev
 generalize hgx : env.getD (hasI n.externals r).toNat 0 = x at *
 by_cases c2 : x = 0
 ·have d2 : decide (x = 0) = true := decide_eq_true c2
  rw [decide_eq_false (by omega : ¬ 0 < x)] at hob
  rw [hor, hob]
  simp (disch := omega) only [d1, hgx, d2, go_sem]
  exact W_retC c144_ok (r := .tup [.agg (rtC ⟨0, 0, 0, false⟩), .bool false]) (σ' := σ) (resV_cellT rfl (upd_same _ _ _) rfl rfl) (Conv.drop _ fun d x h => by first | exact hle _ _ _ _ h | (rw [upd_upd]; exact hle _ _ _ _ h)) ⟨rfl, rfl⟩
 ·have d2 : decide (x = 0) = false := decide_eq_false c2
  rw [decide_eq_true (by omega : 0 < x)] at hob
  rw [hor, hob]
  simp (disch := omega) only [d1, hgx, d2, go_sem]
  exact W_retC c144_ok (r := .tup [.agg (rtC ⟨-1, 100, 2, decide (x = 2)⟩), .bool true]) (σ' := σ) (resV_cellT rfl (upd_same _ _ _) rfl rfl) (Conv.drop _ fun d x h => by first | exact hle _ _ _ _ h | (rw [upd_upd]; exact hle _ _ _ _ h)) ⟨rfl, rfl⟩
theorem neighbours_own {n : Net} {ex : Bool} {down : List Bool} {r : Int} (hn : n.routers.length ≤ 100000000) (hl : n.links.length ≤ 1000000000000) (hd : down.length = n.links.length) :
  ACalls Tryz.prog Γ 157 [netV n, .int .i64 r, .isl ex 1 (bools down)] σ fun q s => OwnL σ 1 (ints (nearP n r down)) q s := by
 have e0 : (netC n)[0]? = some (.isl false 1 (strsV n.routers)) := rfl
 have hlen : (netC n).take 6 = netC n := rfl
 have hlen2 : (netC n).length = 6 := rfl
 refine acalls_W c157_ok rfl ?_
 simp (disch := omega) only [c157, netV, go_sem]
 refine SRun.boxR (net_one n) ?_
 intro b3 hb3
 have g3 := upd_same σ b3 (netC n)
 simp (disch := omega) only [e0, go_sem]
 refine W_loopC (α := Nat × V × St) (fun p => p.1 ≤ n.routers.length ∧ OwnL (upd σ b3 (netC n)) 1 (ints (((List.range p.1).filter (nearB n r down)).map fun (k : Nat) => (k : Int))) p.2.1 p.2.2) (fun p => [(1, .int .i64 r), (2, .isl ex 1 (bools down)), (3, .ptr b3 0), (7, p.2.1), (12, .int .i64 n.routers.length), (13, .int .i64 (p.1 : Nat))]) (fun p => p.2.2) (fun p => n.routers.length - p.1) (0, .isl true 0 [], _) ⟨by simp, OwnL.nil _ _⟩ (by simp (disch := omega) only [subT, Int.natCast_add, Int.cast_ofNat_Int, go_sem] <;> (repeat' apply And.intro) <;> first | rfl | (congr 1; omega) | assumption) rfl ?_
 rintro ⟨i, q, s⟩ ⟨hi, ho⟩ ih
 dsimp only at hi ho
 have g3' := ho.get g3
 have hq1 := ho.one
 simp (disch := omega) only [go_sem]
 first | refine iteW_dec (fun h1 => ?_) (fun h1 => ?_) | refine iteW_of (fun h1 => ?_) (fun h1 => ?_)
 ·have hf := filter_range_snoc (p := nearB n r down) i
  have hlen3 : ((List.range i).filter (nearB n r down)).length ≤ i := by have := List.length_filter_le (nearB n r down) (List.range i); simpa using this
  simp (disch := omega) only [g3', hlen, hlen2, go_sem]
  refine SRun.callR (linkOf_ok (n := n) (x := r) (y := i) hl) ⟨[], rfl, rfl⟩ rfl ?_
  have hlk := linkP_in n.links r i
  by_cases h2 : linkP n.links r i ≥ 0
  ·have hd2 : decide (linkP n.links r i ≥ 0) = true := decide_eq_true h2
   have hnb : nearB n r down i = !down.getD (linkP n.links r i).toNat false := by unfold nearB; rw [decide_eq_true h2]; rfl
   simp (disch := omega) only [hd2, go_sem]
   generalize down.getD (linkP n.links r i).toNat false = dn at *
   cases dn with
   | false =>
    simp (disch := omega) only [go_sem]
    refine SRun.appL ho rfl (ints_ok [(i : Int)]) (by simp [ints]; omega) ?_
    intro q' s' ho2
    rw [ints_app] at ho2
    simp (disch := omega) only [go_sem]
    rw [hnb] at hf
    refine ih (i + 1, q', s') _ _ ⟨by simp only; omega, by rw [hf]; simpa using ho2⟩ (by simp only; omega) (by simp (disch := omega) only [subT, Int.natCast_add, Int.cast_ofNat_Int, go_sem] <;> (repeat' apply And.intro) <;> first | rfl | (congr 1; omega) | assumption) rfl
   | true =>
    simp (disch := omega) only [go_sem]
    rw [hnb] at hf
    refine ih (i + 1, q, s) _ _ ⟨by simp only; omega, by rw [hf]; simpa using ho⟩ (by simp only; omega) (by simp (disch := omega) only [subT, Int.natCast_add, Int.cast_ofNat_Int, go_sem] <;> (repeat' apply And.intro) <;> first | rfl | (congr 1; omega) | assumption) rfl
  ·have hd2 : decide (linkP n.links r i ≥ 0) = false := decide_eq_false h2
   have hnb : nearB n r down i = false := by unfold nearB; rw [decide_eq_false h2]; rfl
   simp (disch := omega) only [hd2, go_sem]
   rw [hnb] at hf
   refine ih (i + 1, q, s) _ _ ⟨by simp only; omega, by rw [hf]; simpa using ho⟩ (by simp only; omega) (by simp (disch := omega) only [subT, Int.natCast_add, Int.cast_ofNat_Int, go_sem] <;> (repeat' apply And.intro) <;> first | rfl | (congr 1; omega) | assumption) rfl
 ·have hir : i = n.routers.length := by omega
  subst hir
  obtain ⟨s2, hle, ho2⟩ := ho.drop hb3
  simp (disch := omega) only [go_sem]
  exact W_retC c157_ok rfl (Conv.drop _ hle) ho2
theorem neighbours_ok {n : Net} {ex : Bool} {down : List Bool} {r : Int} (hn : n.routers.length ≤ 100000000) (hl : n.links.length ≤ 1000000000000) (hd : down.length = n.links.length) :
  Ret Tryz.prog Γ 157 [netV n, .int .i64 r, .isl ex 1 (bools down)] σ (.isl false 1 (ints (nearP n r down))) σ :=
 ACalls.conv (neighbours_own hn hl hd) fun q s ho => ⟨_, σ, ho.conv, rfl, rfl⟩
def rtD : Option Rt → Rt | some r => r | none => default
set_option maxHeartbeats 1000000 in
theorem imported_ok {n : Net} {router from_ : Int} {r : Rt} (hl : n.links.length ≤ 1000000000000) (hi : n.imports.length ≤ 1000000000000) (hlk : 0 ≤ linkP n.links router from_) (hr : 0 ≤ r.len ∧ r.len ≤ 1000000000) (hc : ∀ l ∈ n.links, 1 ≤ l.cost ∧ l.cost ≤ 100) (hdo : ∀ x ∈ n.imports, 1 ≤ x.do_ ∧ x.do_ ≤ 4) :
  Ret Tryz.prog Γ 145 [netV n, .int .i64 router, .int .i64 from_, .agg (rtC r)] σ (.tup [.agg (rtC (rtD (importO n router from_ r))), .bool (importO n router from_ r).isSome]) σ := by
 have hlen : (netC n).take 6 = netC n := rfl
 have hlen2 : (netC n).length = 6 := rfl
 have e1 : (netC n)[1]? = some (.isl false 3 (linksV n.links)) := rfl
 have e4 : (netC n)[4]? = some (.isl false 5 (impsV n.imports)) := rfl
 have hlk2 := (linkP_in n.links router from_).2
 have hcost := hc _ (getD_mem default (by omega : (linkP n.links router from_).toNat < n.links.length))
 refine ret_of c145_ok rfl ?_
 simp (disch := omega) only [c145, netV, go_sem]
 refine SRun.boxR (net_one n) ?_
 intro b4 hb4
 simp (disch := omega) only [go_sem]
 refine SRun.boxR (rt_one r) ?_
 intro b7 hb7
 have n74 := (upd_none.1 hb7).1
 have n7 := (upd_none.1 hb7).2
 simp (disch := omega) only [go_sem]
 refine SRun.allocR ?_
 intro b8 hb8
 have n8 := upd_none.1 hb8
 have n8' := upd_none.1 n8.2
 have g4 : ∀ z, upd (upd (upd σ b4 (netC n)) b7 (rtC r)) b8 z b4 = some (netC n) := fun z => by rw [upd_ne _ _ n8'.1.symm, upd_ne _ _ n74.symm, upd_same]
 have g7 : ∀ z, upd (upd (upd σ b4 (netC n)) b7 (rtC r)) b8 z b7 = some (rtC r) := fun z => by rw [upd_ne _ _ n8.1.symm, upd_same]
 have g8 := fun z => upd_same (upd (upd σ b4 (netC n)) b7 (rtC r)) b8 z
 have hσ : ∀ z d x, σ d = some x → upd (upd (upd σ b4 (netC n)) b7 (rtC r)) b8 z d = some x := fun z d x h => le_upd hb8 _ _ (le_two hb4 n7 _ _ _ _ h)
 have hσ8 := hσ [.int .i64 0, .int .i64 0, .int .i64 0, .bool false]
 have g48 := g4 [.int .i64 0, .int .i64 0, .int .i64 0, .bool false]
 have g78 := g7 [.int .i64 0, .int .i64 0, .int .i64 0, .bool false]
 have g88 := g8 [.int .i64 0, .int .i64 0, .int .i64 0, .bool false]
 generalize upd (upd (upd σ b4 (netC n)) b7 (rtC r)) b8 [.int .i64 0, .int .i64 0, .int .i64 0, .bool false] = s1 at *
 simp (disch := omega) only [go_sem]
 rw [W_draw]
 refine DRun.start (DRun.mixNR (fun T s' => ∃ b9, s1 b9 = none ∧ s' = upd emp b9 [.int .i64 0, .int .i64 0, .int .i64 0, .bool false] ∧ look T 1 = .int .i64 router ∧ look T 2 = .int .i64 from_ ∧ look T 4 = .ptr b4 0 ∧ look T 8 = .ptr b8 0 ∧ look T 9 = .bool false ∧ look T 10 = .ptr b9 0 ∧ look T 28 = .agg (rtC ⟨from_, 100, r.len + (linkAtP n router from_).cost, r.mark⟩)) rfl ?_ ?_)
 ·have hlc : ∀ l, linkC l = [.int .i64 l.a, .int .i64 l.b, .int .i64 l.cost] := fun _ => rfl
  simp (disch := omega) only [g78, g48, e1, rtC, hlen, hlen2, go_sem]
  refine DS.wr2 (WrF.call (linkOf_ok (n := n) (x := router) (y := from_) hl) ⟨[], rfl, rfl⟩) rfl ?_ ?_
  ·rintro x s ⟨rfl, hs⟩ hd
   obtain rfl := hs.symm
   simp (disch := omega) only [hlc, go_sem]
   refine DS.wrQ WrF.alloc rfl ?_
   rintro _ s9 ⟨b9, hb9, rfl, rfl⟩ hd9
   refine ⟨b9, disj_new hd9, ?_⟩
   (repeat' apply And.intro) <;> rfl
  ·refine DS.wrQ WrF.alloc rfl ?_
   rintro _ s9 ⟨b9, hb9, rfl, rfl⟩ hd9
   simp (disch := omega) only [go_sem]
   refine DS.wrQ (WrF.call (linkOf_ok (n := n) (x := router) (y := from_) hl) ⟨[], rfl, rfl⟩) rfl ?_
   rintro x s ⟨rfl, hs⟩ hd
   obtain rfl := hs.symm
   simp (disch := omega) only [hlc, go_sem]
   refine ⟨b9, disj_new hd9, ?_⟩
   (repeat' apply And.intro) <;> rfl
 rintro T s' ⟨b9, hb9, rfl, k1, k2, k4, k8, k9, k10, k28⟩
 rw [cup_new]
 have n94 : b9 ≠ b4 := fun e => by subst e; rw [g48] at hb9; cases hb9
 have n98 : b9 ≠ b8 := fun e => by subst e; rw [g88] at hb9; cases hb9
 simp (disch := omega) only [k10, k28, k4, g48, n94, n94.symm, e4, go_sem]
 have himp : importO n router from_ r = impGo router from_ n.imports ⟨from_, 100, r.len + (linkAtP n router from_).cost, r.mark⟩ := rfl
 generalize (⟨from_, 100, r.len + (linkAtP n router from_).cost, r.mark⟩ : Rt) = r0 at *
 have hs1 : ∀ d z, s1 d = some z → upd s1 b9 (rtC r0) d = some z := le_upd hb9
 refine W_loopC (α := Nat × Rt × St) (fun p => p.1 ≤ n.imports.length ∧ p.2.2 b9 = some (rtC p.2.1) ∧ (∀ d z, s1 d = some z → p.2.2 d = some z) ∧ importO n router from_ r = impGo router from_ (n.imports.drop p.1) p.2.1) (fun p => [(1, .int .i64 router), (2, .int .i64 from_), (4, .ptr b4 0), (8, .ptr b8 0), (9, .bool false), (10, .ptr b9 0), (30, .isl false 5 (impsV n.imports)), (31, .int .i64 n.imports.length), (32, .int .i64 (p.1 : Nat))]) (fun p => p.2.2) (fun p => n.imports.length - p.1) (0, r0, _) ⟨by simp, upd_same _ _ _, hs1, by rw [himp]; rfl⟩ (by simp (disch := omega) only [subT, Int.natCast_add, Int.cast_ofNat_Int, k1, k2, k4, k8, k9, k10, impsV_len, go_sem] <;> (repeat' apply And.intro) <;> first | rfl | (congr 1; omega) | assumption) rfl ?_
 clear himp
 rintro ⟨i, cur, s⟩ ⟨hi2, hc9, hle, he⟩ ih
 dsimp only at hi2 hc9 hle he
 have g4' := hle _ _ g48
 have g8' := hle _ _ g88
 have hcr : rtC cur = [.int .i64 cur.via, .int .i64 cur.pref, .int .i64 cur.len, .bool cur.mark] := rfl
 have hend : resV [.cell 8 true 4] = resV [.cell 8 true 4] := rfl
 simp (disch := omega) only [go_sem]
 first | refine iteW_dec (fun h1 => ?_) (fun h1 => ?_) | refine iteW_of (fun h1 => ?_) (fun h1 => ?_)
 ·have hdr := drop_cons (xs := n.imports) default (by omega : i < n.imports.length)
  rw [hdr, impGo] at he
  have hxdo := hdo _ (getD_mem default (by omega : i < n.imports.length))
  simp (disch := omega) only [go_sem]
  generalize n.imports.getD i default = x at *
  refine SRun.allocR ?_
  intro b11 hb11
  have n11 : b9 ≠ b11 := fun e => by subst e; rw [hc9] at hb11; cases hb11
  have n11b : b11 ≠ b9 := n11.symm
  have n8b : b8 ≠ b9 := n98.symm
  have n118 : b8 ≠ b11 := fun e => by subst e; rw [g8'] at hb11; cases hb11
  have hle3 : ∀ z, ∀ d y, s1 d = some y → upd s b11 z d = some y := fun z d y h => le_upd hb11 _ _ (hle _ _ h)
  have hic : impC x = [.int .i64 x.at_, .int .i64 x.from_, .int .i64 x.when_, .int .i64 x.do_, .int .i64 x.n] := rfl
  clear hcr
  obtain ⟨cv, cp, cl, mk⟩ := cur
  have hcr : rtC ⟨cv, cp, cl, mk⟩ = [.int .i64 cv, .int .i64 cp, .int .i64 cl, .bool mk] := rfl
  dsimp only at he
  have hdef : impSkip router from_ x ⟨cv, cp, cl, mk⟩ = (!decide (x.at_ = router) || !decide (x.from_ = from_) || (decide (x.when_ = 1) && !mk) || (decide (x.when_ = 2) && mk)) := rfl
  have m1 : (decide ¬ x.at_ = router) = !decide (x.at_ = router) := by simp
  have m2 : (decide ¬ x.from_ = from_) = !decide (x.from_ = from_) := by simp
  generalize decide (x.at_ = router) = q1 at *
  generalize decide (x.from_ = from_) = q2 at *
  generalize m3 : decide (x.when_ = 1) = q3 at *
  generalize m4 : decide (x.when_ = 2) = q4 at *
  by_cases hsk : impSkip router from_ x ⟨cv, cp, cl, mk⟩ = true
  ·rw [if_pos hsk] at he
   rw [hdef] at hsk
   cases q1
   case' true =>
    cases q2
    case' true =>
     cases q3 <;> cases q4 <;> cases mk
   all_goals
    first
    | (exfalso; revert hsk; decide)
    | skip
   all_goals
    simp (disch := omega) only [hc9, n11, n11b, hic, hcr, m1, m2, m3, m4, go_sem]
    exact ih (i + 1, ⟨cv, cp, cl, _⟩, upd s b11 [.int .i64 x.at_, .int .i64 x.from_, .int .i64 x.when_, .int .i64 x.do_, .int .i64 x.n]) _ _ ⟨by simp only; omega, (upd_ne _ _ n11).trans hc9, hle3 _, he⟩ (by simp only; omega) (by simp (disch := omega) only [subT, Int.natCast_add, Int.cast_ofNat_Int, go_sem] <;> (repeat' apply And.intro) <;> first | rfl | (congr 1; omega) | assumption) rfl
  ·rw [if_neg hsk] at he
   rw [hdef] at hsk
   cases q1
   case' true =>
    cases q2
    case' true =>
     cases q3 <;> cases q4 <;> cases mk
   all_goals
    first
    | (exfalso; revert hsk; simp; done)
    | skip
   all_goals
    simp (disch := omega) only [hc9, n11, n11b, hic, hcr, m1, m2, m3, m4, go_sem]
    have g8'' : ∀ z, upd s b11 z b8 = some [.int .i64 0, .int .i64 0, .int .i64 0, .bool false] := fun z => by rw [upd_ne _ _ n118]; exact g8'
    by_cases d1 : x.do_ = 1
    ·have dd1 : decide (x.do_ = 1) = true := decide_eq_true d1
     rw [if_pos d1] at he
     have hnr : rtC default = [.int .i64 0, .int .i64 0, .int .i64 0, .bool false] := rfl
     have g8a := g8'' [.int .i64 x.at_, .int .i64 x.from_, .int .i64 x.when_, .int .i64 x.do_, .int .i64 x.n]
     rw [he]
     simp (disch := omega) only [dd1, g8a, g8', n118, hnr, go_sem]
     refine W_retC c145_ok (r := .tup [.agg (rtC default), .bool false]) (σ' := σ) (resV_cellT rfl (upd_same _ _ _) rfl rfl) (Conv.drop _ fun d z h => ?_) ⟨rfl, rfl⟩
     have hd8 : d ≠ b8 := fun e => by subst e; rw [n8'.2] at h; cases h
     rw [upd_ne _ _ hd8]; exact hle3 _ _ _ (hσ8 _ _ h)
    ·have dd1 : decide (x.do_ = 1) = false := decide_eq_false d1
     rw [if_neg d1] at he
     by_cases d2 : x.do_ = 2
     ·have dd2 : decide (x.do_ = 2) = true := decide_eq_true d2
      rw [if_pos d2] at he
      simp (disch := omega) only [dd1, dd2, hc9, n11, n11b, hcr, go_sem]
      refine ih (i + 1, ⟨cv, x.n, cl, _⟩, upd (upd s b11 [.int .i64 x.at_, .int .i64 x.from_, .int .i64 x.when_, .int .i64 x.do_, .int .i64 x.n]) b9 [.int .i64 cv, .int .i64 x.n, .int .i64 cl, .bool _]) _ _ ⟨by simp only; omega, upd_same _ _ _, fun d z h => ?_, he⟩ (by simp only; omega) (by simp (disch := omega) only [subT, Int.natCast_add, Int.cast_ofNat_Int, go_sem] <;> (repeat' apply And.intro) <;> first | rfl | (congr 1; omega) | assumption) rfl
      have hd9 : d ≠ b9 := fun e => by subst e; rw [hb9] at h; cases h
      try simp only
      rw [upd_ne _ _ hd9]; exact hle3 _ _ _ h
     ·have dd2 : decide (x.do_ = 2) = false := decide_eq_false d2
      rw [if_neg d2] at he
      by_cases d3 : x.do_ = 3
      ·have dd3 : decide (x.do_ = 3) = true := decide_eq_true d3
       rw [dd3] at he
       simp (disch := omega) only [dd1, dd2, dd3, hc9, n11, n11b, hcr, go_sem]
       refine ih (i + 1, ⟨cv, cp, cl, true⟩, upd (upd s b11 [.int .i64 x.at_, .int .i64 x.from_, .int .i64 x.when_, .int .i64 x.do_, .int .i64 x.n]) b9 [.int .i64 cv, .int .i64 cp, .int .i64 cl, .bool true]) _ _ ⟨by simp only; omega, upd_same _ _ _, fun d z h => ?_, he⟩ (by simp only; omega) (by simp (disch := omega) only [subT, Int.natCast_add, Int.cast_ofNat_Int, go_sem] <;> (repeat' apply And.intro) <;> first | rfl | (congr 1; omega) | assumption) rfl
       have hd9 : d ≠ b9 := fun e => by subst e; rw [hb9] at h; cases h
       try simp only
       rw [upd_ne _ _ hd9]; exact hle3 _ _ _ h
      ·have dd3 : decide (x.do_ = 3) = false := decide_eq_false d3
       have dd4 : decide (x.do_ = 4) = true := decide_eq_true (by omega)
       rw [dd3] at he
       simp (disch := omega) only [dd1, dd2, dd3, dd4, hc9, n11, n11b, hcr, go_sem]
       refine ih (i + 1, ⟨cv, cp, cl, false⟩, upd (upd s b11 [.int .i64 x.at_, .int .i64 x.from_, .int .i64 x.when_, .int .i64 x.do_, .int .i64 x.n]) b9 [.int .i64 cv, .int .i64 cp, .int .i64 cl, .bool false]) _ _ ⟨by simp only; omega, upd_same _ _ _, fun d z h => ?_, he⟩ (by simp only; omega) (by simp (disch := omega) only [subT, Int.natCast_add, Int.cast_ofNat_Int, go_sem] <;> (repeat' apply And.intro) <;> first | rfl | (congr 1; omega) | assumption) rfl
       have hd9 : d ≠ b9 := fun e => by subst e; rw [hb9] at h; cases h
       try simp only
       rw [upd_ne _ _ hd9]; exact hle3 _ _ _ h
 ·have hil : i = n.imports.length := by omega
  rw [hil, List.drop_length, impGo] at he
  rw [he]
  simp (disch := omega) only [hc9, hcr, g8', go_sem]
  refine W_retC c145_ok (r := .tup [.agg (rtC cur), .bool true]) (σ' := σ) (resV_cellT rfl (upd_same _ _ _) rfl rfl) (Conv.drop _ fun d z h => ?_) ⟨rfl, rfl⟩
  have hd8 : d ≠ b8 := fun e => by subst e; rw [n8'.2] at h; cases h
  rw [upd_ne _ _ hd8]; exact hle _ _ (hσ8 _ _ h)
end
section
attribute [local irreducible] SRun DS DRun
variable {Γ : St} {σ σ0 : St}
theorem own_len (n : Net) (r : Int) : (ownL n r).length ≤ 1 := by unfold ownL; split <;> simp
theorem out_len (n : Net) (r : Int) (env : List Int) : (outL n r env).length ≤ 1 := by unfold outL; split <;> simp
theorem near_len {n : Net} (hn : n.routers.length ≤ 4) (r : Int) (down : List Bool) : (nearP n r down).length ≤ 4 := by
 simp only [nearP, List.length_map]
 have := List.length_filter_le (nearB n r down) (List.range n.routers.length)
 rw [List.length_range] at this; omega
theorem cand_len {n : Net} (hn : n.routers.length ≤ 4) (r : Int) (env : List Int) (down : List Bool) (rs : List Rt) : (candP n r env down rs).length ≤ 6 := by
 have h1 := own_len n r
 have h2 := out_len n r env
 have h3 := near_len hn r down
 have h4 := List.length_filterMap_le (viaO n r rs) (nearP n r down)
 simp only [candP, List.length_append]; omega
set_option maxHeartbeats 1000000 in
theorem candidates_own {n : Net} {ex ex2 ex3 : Bool} {env : List Int} {down : List Bool} {rs : List Rt} {router : Int} (hn : NetR n) (hdo : ∀ x ∈ n.imports, 1 ≤ x.do_ ∧ x.do_ ≤ 4) (ho : n.origins.length ≤ 1000000000000) (he : env.length = n.externals.length) (hE : (env.all fun x => inB x 0 2) = true) (hd : down.length = n.links.length) (hl : rs.length = n.routers.length) (hr : RtsW rs) (h0 : 0 ≤ router) :
  ACalls Tryz.prog Γ 146 [netV n, .int .i64 router, .isl ex 1 (ints env), .isl ex2 1 (bools down), .isl ex3 4 (rtsV rs)] σ fun q s => OwnL σ 4 (rtsV (candP n router env down rs)) q s := by
 have r4 := hn.r4
 have l6 := hn.l6
 have i12 := hn.i12
 have x2 := hn.x2
 have hlen : (netC n).take 6 = netC n := rfl
 have hlen2 : (netC n).length = 6 := rfl
 have hrt4 : ∀ r : Rt, (rtC r).take 4 = rtC r := fun _ => rfl
 have hrt5 : ∀ r : Rt, (rtC r).length = 4 := fun _ => rfl
 have hone : ∀ r : Rt, (∀ c, c ∈ rtC r → c.one = true) = True := fun r => eq_true (rt_one r)
 have hsets : ∀ r : Rt, sets [V.int .i64 0, .int .i64 0, .int .i64 0, .bool false] 0 (rtC r) = rtC r := fun _ => rfl
 refine acalls_W c146_ok rfl ?_
 simp (disch := omega) only [c146, netV, go_sem]
 refine SRun.boxR (net_one n) ?_
 intro b5 hb5
 have g5 := upd_same σ b5 (netC n)
 have hσ : ∀ d x, σ d = some x → upd σ b5 (netC n) d = some x := le_upd hb5
 simp (disch := omega) only [go_sem]
 generalize upd σ b5 (netC n) = s1 at *
 simp (disch := omega) only [g5, hlen, hlen2, go_sem]
 refine SRun.callR (ownRoute_ok ho) ⟨[], rfl, rfl⟩ rfl ?_
 simp (disch := omega) only [go_sem]
 refine SRun.allocR ?_
 intro b12 hb12
 have g52 := fun z => le_upd (cs := z) hb12 _ _ g5
 simp (disch := omega) only [hone, hsets, hrt5, go_sem]
 have g12 := upd_same s1 b12 (rtC ownR)
 have hσ2 : ∀ d x, σ d = some x → upd s1 b12 (rtC ownR) d = some x := fun d x h => le_upd hb12 _ _ (hσ _ _ h)
 have g53 := g52 (rtC ownR)
 generalize upd s1 b12 (rtC ownR) = s2 at *
 refine iteW_join (fun T s => ∃ q, OwnL s2 4 (rtsV (ownL n router)) q s ∧ look T 1 = .int .i64 router ∧ look T 2 = .isl ex 1 (ints env) ∧ look T 3 = .isl ex2 1 (bools down) ∧ look T 4 = .isl ex3 4 (rtsV rs) ∧ look T 5 = .ptr b5 0 ∧ look T 11 = q) (fun k' key => ?_) ?_
 ·by_cases h1 : 0 ≤ hasI n.origins router
  ·have hd1 : decide (0 ≤ hasI n.origins router) = true := decide_eq_true h1
   simp (disch := omega) only [hd1, g12, hrt4, hrt5, hone, true_and, go_sem]
   refine SRun.appL (OwnL.nil _ 0) rfl (rt1_ok ownR) (by simp) ?_
   intro q s ho1
   simp (disch := omega) only [go_sem]
   refine key _ _ ⟨q, ?_, rfl, rfl, rfl, rfl, rfl, rfl⟩
   unfold ownL; rw [if_pos h1]; exact ho1
  ·have hd1 : decide (0 ≤ hasI n.origins router) = false := decide_eq_false h1
   simp (disch := omega) only [hd1, go_sem]
   refine key _ _ ⟨_, ?_, rfl, rfl, rfl, rfl, rfl, rfl⟩
   unfold ownL; rw [if_neg h1]; exact OwnL.nil _ 0
 rintro T s ⟨q, ho1, k1, k2, k3, k4, k5, k11⟩
 simp (disch := omega) only [ho1.get g53, hlen, hlen2, k1, k2, k3, k4, k5, go_sem]
 refine SRun.callR (outRoute_ok (ex := ex) (env := env) (r := router) (by omega) he hE) ⟨[], rfl, rfl⟩ rfl ?_
 simp (disch := omega) only [go_sem]
 refine SRun.allocR ?_
 intro b14 hb14
 have hb14' : s2 b14 = none := by
  cases e : s2 b14 with
  | none => rfl
  | some c => rw [ho1.get e] at hb14; cases hb14
 have ho2 := ho1.ext (z := rtC (outR n router env)) hb14
 have g54 := le_upd (cs := rtC (outR n router env)) hb14' _ _ g53
 have hσ3 : ∀ d x, σ d = some x → upd s2 b14 (rtC (outR n router env)) d = some x := fun d x h => le_upd hb14' _ _ (hσ2 _ _ h)
 have g14 := upd_same s2 b14 (rtC (outR n router env))
 simp (disch := omega) only [hone, hsets, hrt5, go_sem]
 generalize upd s2 b14 (rtC (outR n router env)) = s3 at *
 generalize upd s b14 (rtC (outR n router env)) = s4 at *
 have hol : outL n router env = if outB n router env then [⟨-1, 100, 2, decide (env.getD (hasI n.externals router).toNat 0 = 2)⟩] else [] := rfl
 have hor : outR n router env = if outB n router env then ⟨-1, 100, 2, decide (env.getD (hasI n.externals router).toNat 0 = 2)⟩ else ⟨0, 0, 0, false⟩ := rfl
 refine iteW_join (fun T s => ∃ q, OwnL s3 4 (rtsV (ownL n router ++ outL n router env)) q s ∧ look T 1 = .int .i64 router ∧ look T 3 = .isl ex2 1 (bools down) ∧ look T 4 = .isl ex3 4 (rtsV rs) ∧ look T 5 = .ptr b5 0 ∧ look T 11 = q) (fun k' key => ?_) ?_
 ·have hw := own_len n router
  cases hob : outB n router env with
  | true =>
   rw [hob, if_pos rfl] at hol hor
   rw [hol] at key
   rw [hor] at g14
   simp (disch := omega) only [k11, ho2.get g14, hrt4, hrt5, go_sem]
   refine ⟨rt_one ⟨-1, 100, 2, _⟩, ?_⟩
   refine SRun.appL ho2 rfl (rt1_ok ⟨-1, 100, 2, decide (env.getD (hasI n.externals router).toNat 0 = 2)⟩) (by rw [rtsV_len]; simp only [List.length_singleton]; omega) ?_
   intro q2 s5 ho3
   rw [rts_app] at ho3
   simp (disch := omega) only [go_sem]
   exact key _ _ ⟨q2, ho3, k1, k3, k4, k5, rfl⟩
  | false =>
   rw [hob] at hol
   have hol2 : outL n router env = [] := hol
   rw [hol2, List.append_nil] at key
   simp (disch := omega) only [go_sem]
   exact key _ _ ⟨q, ho2, k1, k3, k4, k5, k11⟩
 clear k1 k2 k3 k4 k5 k11 ho1 ho2 hol hor T
 rintro T s ⟨q, ho1, k1, k3, k4, k5, k11⟩
 have hcand : candP n router env down rs = ownL n router ++ outL n router env ++ (nearP n router down).filterMap (viaO n router rs) := rfl
 have g5' := ho1.get g54
 simp (disch := omega) only [g5', hlen, hlen2, k1, k3, k4, k5, go_sem]
 refine SRun.callR (neighbours_ok (ex := ex2) (n := n) (down := down) (r := router) (by omega) (by omega) hd) ⟨[], rfl, rfl⟩ rfl ?_
 have hnm : ∀ v ∈ nearP n router down, _ := fun v hv => near_mem hv
 have hnl := near_len r4 router down
 have hbl : (ownL n router ++ outL n router env).length ≤ 2 := by
  have h1 := own_len n router
  have h2 := out_len n router env
  rw [List.length_append]; omega
 generalize ownL n router ++ outL n router env = base at *
 generalize nearP n router down = nr at *
 simp (disch := omega) only [go_sem]
 refine W_loopC (α := Nat × V × St × St) (fun p => p.1 ≤ nr.length ∧ (∀ d x, s3 d = some x → p.2.2.1 d = some x) ∧ OwnL p.2.2.1 4 (rtsV (base ++ (nr.take p.1).filterMap (viaO n router rs))) p.2.1 p.2.2.2) (fun p => [(1, .int .i64 router), (3, .isl ex2 1 (bools down)), (4, .isl ex3 4 (rtsV rs)), (5, .ptr b5 0), (11, p.2.1), (46, .isl false 1 (ints nr)), (47, .int .i64 nr.length), (48, .int .i64 (p.1 : Nat))]) (fun p => p.2.2.2) (fun p => nr.length - p.1) (0, q, s3, s) ⟨by simp, fun _ _ h => h, by simpa using ho1⟩ (by simp (disch := omega) only [subT, Int.natCast_add, Int.cast_ofNat_Int, k1, k3, k4, k5, k11, go_sem] <;> (repeat' apply And.intro) <;> first | rfl | (congr 1; omega) | assumption) rfl ?_
 clear ho1 k1 k3 k4 k5 k11 g5'
 rintro ⟨i, q, sb, s⟩ ⟨hi, hle, ho1⟩ ih
 dsimp only at hi hle ho1
 have g5' := ho1.get (hle _ _ g54)
 simp (disch := omega) only [go_sem]
 first | refine iteW_dec (fun h4 => ?_) (fun h4 => ?_) | refine iteW_of (fun h4 => ?_) (fun h4 => ?_)
 ·have hv := hnm _ (getD_mem 0 (by omega : i < nr.length))
  have hts := take_succ (xs := nr) (i := i) 0 (by omega)
  simp (disch := omega) only [go_sem]
  generalize hgv : nr.getD i 0 = v at *
  obtain ⟨v0, v1, v2, v3⟩ := hv
  have hra : rs.getD v.toNat default = rtAt rs v := rfl
  have hrl := hr.lens v
  have hrt0 : ∀ r : Rt, (rtC r)[0]? = some (.int .i64 r.via) := fun _ => rfl
  have hvO : viaO n router rs v = if (rtAt rs v).via = -3 ∨ throughP rs v router then none else importO n router v (rtAt rs v) := rfl
  have hno : viaO n router rs v = none → OwnL sb 4 (rtsV (base ++ (nr.take (i + 1)).filterMap (viaO n router rs))) q s := fun hv => by rw [hts, List.filterMap_append, List.filterMap_cons, hv, List.filterMap_nil, List.append_nil]; exact ho1
  have hyes : ∀ r, viaO n router rs v = some r → rtsV (base ++ (nr.take (i + 1)).filterMap (viaO n router rs)) = rtsV (base ++ (nr.take i).filterMap (viaO n router rs)) ++ [.agg (rtC r)] := fun r hv => by rw [hts, List.filterMap_append, List.filterMap_cons, hv, List.filterMap_nil, ← List.append_assoc, rts_app]
  have hsz : (base ++ (nr.take i).filterMap (viaO n router rs)).length ≤ 6 := by
   have := List.length_filterMap_le (viaO n router rs) (nr.take i)
   rw [List.length_append]; rw [List.length_take] at this; omega
  by_cases c1 : (rtAt rs v).via = -3
  ·have d1 : decide ((rtAt rs v).via = -3) = true := decide_eq_true c1
   simp (disch := omega) only [hra, hrt0, d1, hgv, go_sem]
   exact ih (i + 1, q, sb, s) _ _ ⟨by simp only; omega, hle, hno (by rw [hvO, if_pos (.inl c1)])⟩ (by simp only; omega) (by simp (disch := omega) only [subT, Int.natCast_add, Int.cast_ofNat_Int, go_sem] <;> (repeat' apply And.intro) <;> first | rfl | (congr 1; omega) | assumption) rfl
  ·have d1 : decide ((rtAt rs v).via = -3) = false := decide_eq_false c1
   simp (disch := omega) only [hra, hrt0, d1, hgv, go_sem]
   refine SRun.callR (comesTo_ok (ex := ex3) (rs := rs) (from_ := v) (router := router) (by omega) hr.vias (by omega) h0) ⟨[], rfl, rfl⟩ rfl ?_
   cases c2 : throughP rs v router with
   | true =>
    simp (disch := omega) only [go_sem]
    exact ih (i + 1, q, sb, s) _ _ ⟨by simp only; omega, hle, hno (by rw [hvO, if_pos (.inr c2)])⟩ (by simp only; omega) (by simp (disch := omega) only [subT, Int.natCast_add, Int.cast_ofNat_Int, go_sem] <;> (repeat' apply And.intro) <;> first | rfl | (congr 1; omega) | assumption) rfl
   | false =>
    rw [if_neg (by rw [c2]; simp [c1])] at hvO
    simp (disch := omega) only [go_sem]
    rw [W_draw]
    have hI := fun Γ σ => imported_ok (Γ := Γ) (σ := σ) (n := n) (router := router) (from_ := v) (r := rtAt rs v) (by omega) (by omega) v2 hrl hn.cost hdo
    rw [← hvO] at hI
    have hnr : ∀ r : Rt, rtC r = [.int .i64 r.via, .int .i64 r.pref, .int .i64 r.len, .bool r.mark] := fun _ => rfl
    refine DRun.start (DRun.mixNR (fun T s' => ∃ b18, s b18 = none ∧ s' = upd emp b18 (rtC (rtD (viaO n router rs v))) ∧ look T 1 = .int .i64 router ∧ look T 3 = .isl ex2 1 (bools down) ∧ look T 4 = .isl ex3 4 (rtsV rs) ∧ look T 5 = .ptr b5 0 ∧ look T 11 = q ∧ look T 46 = .isl false 1 (ints nr) ∧ look T 47 = .int .i64 nr.length ∧ look T 48 = .int .i64 (i : Nat) ∧ look T 18 = .ptr b18 0 ∧ look T 74 = .bool (viaO n router rs v).isSome) rfl ?_ ?_)
    ·simp (disch := omega) only [g5', hlen, hlen2, hra, hrt4, hrt5, hgv, go_sem]
     refine DS.wr2 (WrF.call (hI _ _) ⟨[], rfl, rfl⟩) rfl ?_ ?_
     ·rintro x s ⟨rfl, hs⟩ hd9
      obtain rfl := hs.symm
      simp (disch := omega) only [go_sem]
      refine DS.wrQ WrF.alloc rfl ?_
      rintro _ s9 ⟨b18, hb18, rfl, rfl⟩ hd9
      simp (disch := omega) only [go_sem]
      refine DS.wrQ (WrF.store rfl (upd_same _ b18 _) rfl (by simp [ev, look, V.cells]; exact rt_one _) (by simp)) rfl ?_
      rintro _ s4 ⟨_, rfl⟩ hd3
      rw [upd_upd]
      refine ⟨b18, disj_new hd9, rfl, ?_⟩
      (repeat' apply And.intro) <;> rfl
     ·refine DS.wrQ WrF.alloc rfl ?_
      rintro _ s9 ⟨b18, hb18, rfl, rfl⟩ hd9
      simp (disch := omega) only [go_sem]
      refine DS.wrQ (WrF.call (hI _ _) ⟨[], rfl, rfl⟩) rfl ?_
      rintro x s ⟨rfl, hs⟩ hd
      obtain rfl := hs.symm
      simp (disch := omega) only [go_sem]
      refine DS.wrQ (WrF.store rfl (upd_same _ b18 _) rfl (by simp [ev, look, V.cells]; exact rt_one _) (by simp)) rfl ?_
      rintro _ s4 ⟨_, rfl⟩ hd3
      rw [upd_upd]
      refine ⟨b18, disj_new hd9, rfl, ?_⟩
      (repeat' apply And.intro) <;> rfl
    rintro T s' ⟨b18, hb18, rfl, k1, k3, k4, k5, k11, k46, k47, k48, k18, k74⟩
    rw [cup_new]
    have hsb : sb b18 = none := by
     cases e : sb b18 with
     | none => rfl
     | some c => rw [ho1.get e] at hb18; cases hb18
    have hoE := ho1.ext (z := rtC (rtD (viaO n router rs v))) hb18
    cases hio : viaO n router rs v with
    | none =>
     rw [hio] at k74 hoE
     have hno2 := hno hio
     simp (disch := omega) only [k74, Option.isSome_none, k48, go_sem]
     refine ih (i + 1, q, upd sb b18 _, _) _ _ ⟨by simp only; omega, fun d x h => le_upd hsb _ _ (hle _ _ h), hno2.ext hb18⟩ (by simp only; omega) (by simp (disch := omega) only [subT, Int.natCast_add, Int.cast_ofNat_Int, k1, k3, k4, k5, k11, k46, k47, k48, go_sem] <;> (repeat' apply And.intro) <;> first | rfl | (congr 1; omega) | assumption) rfl
    | some r =>
     rw [hio] at k74 hoE
     have hy := hyes r hio
     have hD : rtD (some r) = r := rfl
     rw [hD] at hoE
     simp (disch := omega) only [k74, Option.isSome_some, k18, hD, hrt4, hrt5, k11, k48, hone, true_and, go_sem]
     refine SRun.appL hoE rfl (rt1_ok r) (by rw [rtsV_len]; simp only [List.length_singleton]; omega) ?_
     intro q2 s2 ho2
     rw [← hy] at ho2
     simp (disch := omega) only [k48, go_sem]
     refine ih (i + 1, q2, upd sb b18 _, s2) _ _ ⟨by simp only; omega, fun d x h => le_upd hsb _ _ (hle _ _ h), ho2⟩ (by simp only; omega) (by simp (disch := omega) only [subT, Int.natCast_add, Int.cast_ofNat_Int, k1, k3, k4, k5, k11, k46, k47, k48, go_sem] <;> (repeat' apply And.intro) <;> first | rfl | (congr 1; omega) | assumption) rfl
 ·have hil : i = nr.length := by omega
  subst hil
  rw [List.take_length] at ho1
  obtain ⟨s2, hle2, ho2⟩ := ownL_less ho1 (fun d x h => hle _ _ (hσ3 _ _ h))
  simp (disch := omega) only [go_sem]
  refine W_retC c146_ok rfl (Conv.drop _ hle2) ?_
  rw [hcand]; exact ho2
theorem candidates_ok {n : Net} {ex ex2 ex3 : Bool} {env : List Int} {down : List Bool} {rs : List Rt} {router : Int} (hn : NetR n) (hdo : ∀ x ∈ n.imports, 1 ≤ x.do_ ∧ x.do_ ≤ 4) (ho : n.origins.length ≤ 1000000000000) (he : env.length = n.externals.length) (hE : (env.all fun x => inB x 0 2) = true) (hd : down.length = n.links.length) (hl : rs.length = n.routers.length) (hr : RtsW rs) (h0 : 0 ≤ router) :
  Ret Tryz.prog Γ 146 [netV n, .int .i64 router, .isl ex 1 (ints env), .isl ex2 1 (bools down), .isl ex3 4 (rtsV rs)] σ (.isl false 4 (rtsV (candP n router env down rs))) σ :=
 ACalls.conv (candidates_own hn hdo ho he hE hd hl hr h0) fun q s ho => ⟨_, σ, ho.conv, rfl, rfl⟩
theorem bestRoute_ok {ex : Bool} {l : List Rt} (hl : l.length ≤ 1000000000000) (hne : l ≠ []) : Ret Tryz.prog Γ 147 [.isl ex 4 (rtsV l)] σ (.agg (rtC (firstBest l))) σ := by
 have hrt4 : ∀ r : Rt, (rtC r).take 4 = rtC r := fun _ => rfl
 have hrt5 : ∀ r : Rt, (rtC r).length = 4 := fun _ => rfl
 have hone : ∀ r : Rt, (∀ c, c ∈ rtC r → c.one = true) = True := fun r => eq_true (rt_one r)
 have hsets : ∀ r : Rt, sets [V.int .i64 0, .int .i64 0, .int .i64 0, .bool false] 0 (rtC r) = rtC r := fun _ => rfl
 have hsets2 : ∀ o r : Rt, sets (rtC o) 0 (rtC r) = rtC r := fun _ _ => rfl
 have hpos : 0 < l.length := List.length_pos_iff.2 hne
 have hfb : firstBest l = l.foldl (fun o y => if betterP y o then y else o) (l.getD 0 default) := by
  cases l with
  | nil => exact absurd rfl hne
  | cons x r => rfl
 refine ret_of c147_ok rfl ?_
 simp (disch := omega) only [c147, go_sem]
 refine SRun.allocR ?_
 intro b2 hb2
 simp (disch := omega) only [hrt4, hrt5, go_sem]
 refine SRun.allocR ?_
 intro b3 hb3
 have n3 := upd_none.1 hb3
 have n23 : b2 ≠ b3 := n3.1.symm
 simp (disch := omega) only [hone, hsets, hrt5, go_sem]
 generalize l.getD 0 default = x0 at *
 refine W_loopC (α := Nat × Rt × St) (fun p => p.1 ≤ l.length ∧ p.2.2 b3 = some (rtC p.2.1) ∧ p.2.2 b2 = some [.int .i64 0, .int .i64 0, .int .i64 0, .bool false] ∧ (∀ d z, σ d = some z → p.2.2 d = some z) ∧ firstBest l = (l.drop p.1).foldl (fun o y => if betterP y o then y else o) p.2.1) (fun p => [(2, .ptr b2 0), (3, .ptr b3 0), (9, .isl ex 4 (rtsV l)), (10, .int .i64 l.length), (11, .int .i64 (p.1 : Nat))]) (fun p => p.2.2) (fun p => l.length - p.1) (0, x0, upd (upd σ b2 [.int .i64 0, .int .i64 0, .int .i64 0, .bool false]) b3 (rtC x0)) ⟨by simp, upd_same _ _ _, (upd_ne _ _ n23).trans (upd_same _ _ _), le_two hb2 n3.2 _ _, hfb⟩ (by simp (disch := omega) only [subT, Int.natCast_add, Int.cast_ofNat_Int, go_sem] <;> (repeat' apply And.intro) <;> first | rfl | (congr 1; omega) | assumption) rfl ?_
 clear hfb
 rintro ⟨i, o, s⟩ ⟨hi, hc3, hc2, hle, hb⟩ ih
 dsimp only at hi hc3 hc2 hle hb
 simp (disch := omega) only [go_sem]
 first | refine iteW_dec (fun h1 => ?_) (fun h1 => ?_) | refine iteW_of (fun h1 => ?_) (fun h1 => ?_)
 ·rw [drop_cons (xs := l) default (by omega : i < l.length), List.foldl_cons] at hb
  simp (disch := omega) only [hrt4, hrt5, go_sem]
  generalize l.getD i default = y at *
  refine SRun.allocR ?_
  intro b5 hb5
  have n35 : b3 ≠ b5 := fun e => by subst e; rw [hc3] at hb5; cases hb5
  have n25 : b2 ≠ b5 := fun e => by subst e; rw [hc2] at hb5; cases hb5
  simp (disch := omega) only [hone, hsets, hrt5, hrt4, hc3, n35, go_sem]
  refine SRun.callR (isBetter_ok (a := y) (b := o)) ⟨[], rfl, rfl⟩ rfl ?_
  cases c2 : betterP y o with
  | true =>
   rw [c2, if_pos rfl] at hb
   simp (disch := omega) only [hrt4, hrt5, hc3, n35, hone, hsets2, go_sem]
   exact ih (i + 1, y, upd (upd s b5 (rtC y)) b3 (rtC y)) _ _ ⟨by simp only; omega, upd_same _ _ _, (upd_ne _ _ n23).trans ((upd_ne _ _ n25).trans hc2), fun d z h => by
    have e3 : d ≠ b3 := fun e => by subst e; rw [n3.2] at h; cases h
    exact (upd_ne _ _ e3).trans (le_upd hb5 _ _ (hle _ _ h)), hb⟩ (by simp only; omega) (by simp (disch := omega) only [subT, Int.natCast_add, Int.cast_ofNat_Int, go_sem] <;> (repeat' apply And.intro) <;> first | rfl | (congr 1; omega) | assumption) rfl
  | false =>
   rw [c2, if_neg (by simp)] at hb
   simp (disch := omega) only [go_sem]
   exact ih (i + 1, o, upd s b5 (rtC y)) _ _ ⟨by simp only; omega, (upd_ne _ _ n35).trans hc3, (upd_ne _ _ n25).trans hc2, fun d z h => le_upd hb5 _ _ (hle _ _ h), hb⟩ (by simp only; omega) (by simp (disch := omega) only [subT, Int.natCast_add, Int.cast_ofNat_Int, go_sem] <;> (repeat' apply And.intro) <;> first | rfl | (congr 1; omega) | assumption) rfl
 ·have hil : i = l.length := by omega
  subst hil
  rw [List.drop_length, List.foldl_nil] at hb
  simp (disch := omega) only [hc3, hc2, hrt4, hrt5, hone, hsets, go_sem]
  refine W_retC c147_ok (r := .agg (rtC o)) (resV_cellA rfl (upd_same _ _ _) rfl) (Conv.drop _ fun d z h => ?_) ⟨by rw [hb], rfl⟩
  have e2 : d ≠ b2 := fun e => by subst e; rw [hb2] at h; cases h
  rw [upd_ne _ _ e2]; exact hle _ _ h
def bestsP (n : Net) (env : List Int) (down : List Bool) (rs : List Rt) : List Rt := (List.range n.routers.length).map fun (i : Nat) => bestP (candP n i env down rs)
theorem bestRoutes_own {n : Net} {ex ex2 ex3 : Bool} {env : List Int} {down : List Bool} {rs : List Rt} (hn : NetR n) (hdo : ∀ x ∈ n.imports, 1 ≤ x.do_ ∧ x.do_ ≤ 4) (ho : n.origins.length ≤ 1000000000000) (he : env.length = n.externals.length) (hE : (env.all fun x => inB x 0 2) = true) (hd : down.length = n.links.length) (hl : rs.length = n.routers.length) (hr : RtsW rs) :
  ACalls Tryz.prog Γ 113 [netV n, .isl ex 1 (ints env), .isl ex2 1 (bools down), .isl ex3 4 (rtsV rs)] σ fun q s => OwnL σ 4 (rtsV (bestsP n env down rs)) q s := by
 have r4 := hn.r4
 have hlen : (netC n).take 6 = netC n := rfl
 have hlen2 : (netC n).length = 6 := rfl
 have e0 : (netC n)[0]? = some (.isl false 1 (strsV n.routers)) := rfl
 have hrt4 : ∀ r : Rt, (rtC r).take 4 = rtC r := fun _ => rfl
 have hrt5 : ∀ r : Rt, (rtC r).length = 4 := fun _ => rfl
 have hone : ∀ r : Rt, (∀ c, c ∈ rtC r → c.one = true) = True := fun r => eq_true (rt_one r)
 have hnr : [V.int .i64 (-3), .int .i64 0, .int .i64 0, .bool false] = rtC noRt := rfl
 have hsets2 : ∀ o r : Rt, sets (rtC o) 0 (rtC r) = rtC r := fun _ _ => rfl
 refine acalls_W c113_ok rfl ?_
 simp (disch := omega) only [c113, netV, go_sem]
 refine SRun.boxR (net_one n) ?_
 intro b4 hb4
 have g4 := upd_same σ b4 (netC n)
 have hσ : ∀ d x, σ d = some x → upd σ b4 (netC n) d = some x := le_upd hb4
 simp (disch := omega) only [go_sem]
 generalize upd σ b4 (netC n) = s1 at *
 simp (disch := omega) only [g4, e0, go_sem]
 refine W_loopC (α := Nat × V × St × St) (fun p => p.1 ≤ n.routers.length ∧ (∀ d x, s1 d = some x → p.2.2.1 d = some x) ∧ OwnL p.2.2.1 4 (rtsV ((List.range p.1).map fun (i : Nat) => bestP (candP n i env down rs))) p.2.1 p.2.2.2) (fun p => [(1, .isl ex 1 (ints env)), (2, .isl ex2 1 (bools down)), (3, .isl ex3 4 (rtsV rs)), (4, .ptr b4 0), (9, p.2.1), (15, .int .i64 n.routers.length), (16, .int .i64 (p.1 : Nat))]) (fun p => p.2.2.2) (fun p => n.routers.length - p.1) (0, _, s1, s1) ⟨by simp, fun _ _ h => h, OwnL.nil _ 0⟩ (by simp (disch := omega) only [subT, Int.natCast_add, Int.cast_ofNat_Int, go_sem] <;> (repeat' apply And.intro) <;> first | rfl | (congr 1; omega) | assumption) rfl ?_
 rintro ⟨i, q, sb, s⟩ ⟨hi, hle, ho1⟩ ih
 dsimp only at hi hle ho1
 have g4' := ho1.get (hle _ _ g4)
 simp (disch := omega) only [go_sem]
 first | refine iteW_dec (fun h1 => ?_) (fun h1 => ?_) | refine iteW_of (fun h1 => ?_) (fun h1 => ?_)
 ·have hcl := cand_len r4 i env down rs
  have hcv := first_best (l := candP n i env down rs) cand_via
  have hsn : (List.range (i + 1)).map (fun (i : Nat) => bestP (candP n i env down rs)) = (List.range i).map (fun (i : Nat) => bestP (candP n i env down rs)) ++ [bestP (candP n i env down rs)] := by rw [List.range_succ, List.map_append]; rfl
  simp (disch := omega) only [go_sem]
  refine SRun.allocR ?_
  intro b11 hb11
  have n411 : b4 ≠ b11 := fun e => by subst e; rw [g4'] at hb11; cases hb11
  have hsb : sb b11 = none := by
   cases e : sb b11 with
   | none => rfl
   | some c => rw [ho1.get e] at hb11; cases hb11
  simp (disch := omega) only [g4', n411, hlen, hlen2, go_sem]
  refine SRun.callR (candidates_ok (ex := ex) (ex2 := ex2) (ex3 := ex3) (router := (i : Nat)) hn hdo ho he hE hd hl hr (by omega)) ⟨[], rfl, rfl⟩ rfl ?_
  generalize candP n i env down rs = cd at *
  simp (disch := omega) only [go_sem]
  by_cases c1 : cd = []
  ·subst c1
   have hb0 : bestP [] = noRt := rfl
   rw [hb0] at hsn
   simp (disch := omega) only [List.length_nil, go_sem]
   refine SRun.appL (ho1.ext hb11) rfl (rt1_ok noRt) (by rw [rtsV_len, List.length_map, List.length_range]; simp only [List.length_singleton]; omega) ?_
   intro q2 s2 ho2
   rw [hnr, rts_app, ← hsn] at ho2
   simp (disch := omega) only [go_sem]
   exact ih (i + 1, q2, upd sb b11 _, s2) _ _ ⟨by simp only; omega, fun d x h => le_upd hsb _ _ (hle _ _ h), ho2⟩ (by simp only; omega) (by simp (disch := omega) only [subT, Int.natCast_add, Int.cast_ofNat_Int, go_sem] <;> (repeat' apply And.intro) <;> first | rfl | (congr 1; omega) | assumption) rfl
  ·have d1 : decide ((cd.length : Int) > 0) = true := decide_eq_true (by have := List.length_pos_iff.2 c1; omega)
   simp (disch := omega) only [d1, go_sem]
   refine SRun.callR (bestRoute_ok (ex := false) (l := cd) (by omega) c1) ⟨[], rfl, rfl⟩ rfl ?_
   rw [hcv, hnr]
   simp (disch := omega) only [hone, hsets2, hrt4, hrt5, true_and, go_sem]
   refine SRun.appL (ho1.ext hb11) rfl (rt1_ok (bestP cd)) (by rw [rtsV_len, List.length_map, List.length_range]; simp only [List.length_singleton]; omega) ?_
   intro q2 s2 ho2
   rw [rts_app, ← hsn] at ho2
   simp (disch := omega) only [go_sem]
   exact ih (i + 1, q2, upd sb b11 _, s2) _ _ ⟨by simp only; omega, fun d x h => le_upd hsb _ _ (hle _ _ h), ho2⟩ (by simp only; omega) (by simp (disch := omega) only [subT, Int.natCast_add, Int.cast_ofNat_Int, go_sem] <;> (repeat' apply And.intro) <;> first | rfl | (congr 1; omega) | assumption) rfl
 ·have hil : i = n.routers.length := by omega
  subst hil
  obtain ⟨s2, hle2, ho2⟩ := ownL_less ho1 (fun d x h => hle _ _ (hσ _ _ h))
  simp (disch := omega) only [go_sem]
  exact W_retC c113_ok rfl (Conv.drop _ hle2) ho2
theorem bestRoutes_ok {n : Net} {ex ex2 ex3 : Bool} {env : List Int} {down : List Bool} {rs : List Rt} (hn : NetR n) (hdo : ∀ x ∈ n.imports, 1 ≤ x.do_ ∧ x.do_ ≤ 4) (ho : n.origins.length ≤ 1000000000000) (he : env.length = n.externals.length) (hE : (env.all fun x => inB x 0 2) = true) (hd : down.length = n.links.length) (hl : rs.length = n.routers.length) (hr : RtsW rs) :
  Ret Tryz.prog Γ 113 [netV n, .isl ex 1 (ints env), .isl ex2 1 (bools down), .isl ex3 4 (rtsV rs)] σ (.isl false 4 (rtsV (bestsP n env down rs))) σ :=
 ACalls.conv (bestRoutes_own hn hdo ho he hE hd hl hr) fun q s ho => ⟨_, σ, ho.conv, rfl, rfl⟩
theorem bests_stable {n : Net} {env : List Int} {down : List Bool} {rs : List Rt} (hl : rs.length = n.routers.length) : decide (bestsP n env down rs = rs) = stableB n env down rs := by
 rw [Bool.eq_iff_iff, decide_eq_true_eq]
 unfold stableB bestsP
 rw [List.all_eq_true, ← hl]
 constructor
 ·intro h i hi
  have hi := List.mem_range.1 hi
  refine decide_eq_true ?_
  have : ((List.range rs.length).map fun (i : Nat) => bestP (candP n i env down rs)).getD i default = rs.getD i default := by rw [h]
  simpa [List.getD, hi] using this
 ·intro h
  refine List.ext_getElem (by simp) fun i h1 h2 => ?_
  have := of_decide_eq_true (h i (List.mem_range.2 h2))
  simpa [List.getD, h2] using this
theorem isStable_ok {n : Net} {ex ex2 ex3 : Bool} {env : List Int} {down : List Bool} {rs : List Rt} (hn : NetR n) (hdo : ∀ x ∈ n.imports, 1 ≤ x.do_ ∧ x.do_ ≤ 4) (ho : n.origins.length ≤ 1000000000000) (he : env.length = n.externals.length) (hE : (env.all fun x => inB x 0 2) = true) (hd : down.length = n.links.length) (hl : rs.length = n.routers.length) (hr : RtsW rs) :
  Ret Tryz.prog Γ 52 [netV n, .isl ex 1 (ints env), .isl ex2 1 (bools down), .isl ex3 4 (rtsV rs)] σ (.bool (stableB n env down rs)) σ := by
 have r4 := hn.r4
 have hlen : (netC n).take 6 = netC n := rfl
 have hlen2 : (netC n).length = 6 := rfl
 have hbl : (bestsP n env down rs).length = n.routers.length := by unfold bestsP; simp
 refine ret_of c52_ok rfl ?_
 simp (disch := omega) only [c52, netV, go_sem]
 refine SRun.boxR (net_one n) ?_
 intro b4 hb4
 have g4 := upd_same σ b4 (netC n)
 have hσ : ∀ d x, σ d = some x → upd σ b4 (netC n) d = some x := le_upd hb4
 simp (disch := omega) only [go_sem]
 generalize upd σ b4 (netC n) = s1 at *
 simp (disch := omega) only [g4, hlen, hlen2, go_sem]
 refine SRun.callR (bestRoutes_ok hn hdo ho he hE hd hl hr) ⟨[], rfl, rfl⟩ rfl ?_
 simp (disch := omega) only [go_sem]
 refine SRun.callR (equalRt_ok (ex := false) (ex2 := ex3) (xs := bestsP n env down rs) (ys := rs) (by omega)) ⟨[], rfl, rfl⟩ rfl ?_
 rw [bests_stable hl]
 simp (disch := omega) only [go_sem]
 exact W_retC c52_ok rfl (Conv.drop _ hσ) ⟨rfl, rfl⟩
end
section
attribute [local irreducible] SRun DS DRun
variable {Γ : St} {σ σ0 : St}
theorem isAround1_ok {x : Int} : Ret Tryz.prog Γ 109 [.int .i64 x] σ (.bool (!inB x 0 2)) σ := by
 refine ret_of c109_ok rfl ?_
 simp (disch := omega) only [c109, go_sem]
 refine SRun.callR (within_ok x 0 2) ⟨[], rfl, rfl⟩ rfl ?_
 simp (disch := omega) only [go_sem]
 exact W_retR c109_ok rfl ⟨rfl, rfl⟩
theorem indexFInt_ok {ex : Bool} {xs : List Int} {F : FuncId} {caps : List V} {p : Int → Bool} (hl : xs.length ≤ 1000000000000) (hp : ∀ x ∈ xs, Ret Tryz.prog Γ F (.int .i64 x :: caps) σ (.bool (p x)) σ) :
  Ret Tryz.prog Γ 142 [.isl ex 1 (ints xs), .fn F caps] σ (.int .i64 (firstP p xs)) σ := by
 refine ret_of c142_ok rfl ?_
 simp (disch := omega) only [c142, go_sem]
 refine W_loopC (α := Nat) (fun i => i ≤ xs.length ∧ ∀ j, j < i → p (xs.getD j default) = false) (fun i => [(0, .isl ex 1 (ints xs)), (1, .fn F caps), (7, .int .i64 xs.length), (8, .int .i64 (i : Nat))]) (fun _ => σ) (fun i => xs.length - i) 0 ⟨by omega, fun j hj => by omega⟩ (by simp (disch := omega) only [subT, Int.natCast_add, Int.cast_ofNat_Int, go_sem] <;> (repeat' apply And.intro) <;> first | rfl | (congr 1; omega) | assumption) rfl ?_
 rintro i ⟨hi, hno⟩ ih
 simp (disch := omega) only [go_sem]
 first | refine iteW_dec (fun hq => ?_) (fun hq => ?_) | refine iteW_of (fun hq => ?_) (fun hq => ?_)
 ·simp (disch := omega) only [go_sem]
  refine SRun.callR (hp _ (getD_mem 0 (by omega : i < xs.length))) ⟨caps, rfl, rfl⟩ rfl ?_
  generalize hpb : p (xs.getD i 0) = q
  cases q with
  | true =>
   simp (disch := omega) only [go_sem]
   exact W_retR c142_ok rfl ⟨by rw [first_some (by omega) hno hpb]; rfl, rfl⟩
  | false =>
   simp (disch := omega) only [go_sem]
   refine ih (i + 1) _ _ ⟨by omega, fun j hj => ?_⟩ (by omega) (by simp (disch := omega) only [subT, Int.natCast_add, Int.cast_ofNat_Int, go_sem] <;> (repeat' apply And.intro) <;> first | rfl | (congr 1; omega) | assumption) rfl
   by_cases e : j = i
   ·subst e; exact hpb
   ·exact hno j (by omega)
 ·have hil : i = xs.length := by omega
  rw [hil] at hno
  simp (disch := omega) only [go_sem]
  exact W_retR c142_ok rfl ⟨by rw [first_none hno]; rfl, rfl⟩
theorem containsFInt_ok {ex : Bool} {xs : List Int} {F : FuncId} {caps : List V} {p : Int → Bool} (hl : xs.length ≤ 1000000000000) (hp : ∀ x ∈ xs, Ret Tryz.prog Γ F (.int .i64 x :: caps) σ (.bool (p x)) σ) :
  Ret Tryz.prog Γ 108 [.isl ex 1 (ints xs), .fn F caps] σ (.bool (xs.any p)) σ := by
 have := first_any (p := p) (xs := xs)
 refine ret_of c108_ok rfl ?_
 simp (disch := omega) only [c108, go_sem]
 refine SRun.callR (indexFInt_ok hl hp) ⟨[], rfl, rfl⟩ rfl ?_
 simp (disch := omega) only [this, go_sem]
 exact W_retR c108_ok rfl ⟨rfl, rfl⟩
theorem isAround_ok {n : Net} {ex ex2 : Bool} {env : List Int} {down : List Bool} (hn : NetLen n) (he : env.length ≤ 1000000000000) (hd : down.length ≤ 1000000000000) :
  Ret Tryz.prog Γ 48 [netV n, .isl ex 1 (ints env), .isl ex2 1 (bools down)] σ (.bool (envB n env down)) σ := by
 have l2 := hn.links
 have l6 := hn.externals
 have e1 : (netC n)[1]? = some (.isl false 3 (linksV n.links)) := rfl
 have e3 : (netC n)[3]? = some (.isl false 1 (ints n.externals)) := rfl
 have hB : envB n env down = (decide (env.length = n.externals.length) && decide (down.length = n.links.length) && env.all fun x => inB x 0 2) := rfl
 have hna : (env.all fun x => inB x 0 2) = !env.any fun x => !inB x 0 2 := all_not_any fun x => rfl
 refine ret_of c48_ok rfl ?_
 simp (disch := omega) only [c48, netV, go_sem]
 refine SRun.boxR (net_one n) ?_
 intro b3 hb3
 have g3 := upd_same σ b3 (netC n)
 have hσ : ∀ d x, σ d = some x → upd σ b3 (netC n) d = some x := le_upd hb3
 simp (disch := omega) only [go_sem]
 generalize upd σ b3 (netC n) = s1 at *
 by_cases c5 : env.length = n.externals.length
 case' neg =>
  have d5 : decide ((env.length : Int) = n.externals.length) = false := decide_eq_false (by omega)
  rw [hB, decide_eq_false c5]
  simp (disch := omega) only [g3, e3, d5, go_sem]
  exact W_retC c48_ok rfl (Conv.drop _ hσ) ⟨rfl, rfl⟩
 have d5 : decide ((env.length : Int) = n.externals.length) = true := decide_eq_true (by omega)
 by_cases c6 : down.length = n.links.length
 case' neg =>
  have d6 : decide ((down.length : Int) = n.links.length) = false := decide_eq_false (by omega)
  rw [hB, decide_eq_true c5, decide_eq_false c6]
  simp (disch := omega) only [g3, e3, e1, d5, d6, go_sem]
  exact W_retC c48_ok rfl (Conv.drop _ hσ) ⟨rfl, rfl⟩
 have d6 : decide ((down.length : Int) = n.links.length) = true := decide_eq_true (by omega)
 rw [hB, decide_eq_true c5, decide_eq_true c6, hna]
 simp (disch := omega) only [g3, e3, e1, d5, d6, go_sem]
 refine SRun.callR (containsFInt_ok (ex := ex) (xs := env) (F := 109) (caps := []) (p := fun x => !inB x 0 2) he fun x _ => isAround1_ok) ⟨[], rfl, rfl⟩ rfl ?_
 simp (disch := omega) only [go_sem]
 exact W_retC c48_ok rfl (Conv.drop _ hσ) ⟨rfl, rfl⟩
theorem routesCode_ok {n : Net} {ex ex2 : Bool} {env : List Int} {down : List Bool} (hn : NetLen n) (he : env.length ≤ 1000000000000) (hd : down.length ≤ 1000000000000) :
  Ret Tryz.prog Γ 71 [netV n, .isl ex 1 (ints env), .isl ex2 1 (bools down), .isl true 0 [], .bool false] σ (.int .i64 (envCode n env down)) σ := by
 have hlen : (netC n).take 6 = netC n := rfl
 have hlen2 : (netC n).length = 6 := rfl
 have hdef : envCode n env down = if 4096 < env.length ∨ 4096 < down.length then 2 else if netB n = false then 1 else if envB n env down then 0 else 5 := rfl
 refine ret_of c71_ok rfl ?_
 simp (disch := omega) only [c71, netV, go_sem]
 refine SRun.boxR (net_one n) ?_
 intro b5 hb5
 have g5 := upd_same σ b5 (netC n)
 have hσ : ∀ d x, σ d = some x → upd σ b5 (netC n) d = some x := le_upd hb5
 simp (disch := omega) only [go_sem]
 generalize upd σ b5 (netC n) = s1 at *
 by_cases c1 : 4096 < env.length ∨ 4096 < down.length
 ·rw [if_pos c1] at hdef
  rw [hdef]
  by_cases c2 : (env.length : Int) > 4096
  ·have d2 : decide ((env.length : Int) > 4096) = true := decide_eq_true c2
   simp (disch := omega) only [d2, go_sem]
   exact W_retC c71_ok rfl (Conv.drop _ hσ) ⟨rfl, rfl⟩
  ·have d2 : decide ((env.length : Int) > 4096) = false := decide_eq_false c2
   have d3 : decide ((down.length : Int) > 4096) = true := decide_eq_true (by omega)
   simp (disch := omega) only [d2, d3, go_sem]
   exact W_retC c71_ok rfl (Conv.drop _ hσ) ⟨rfl, rfl⟩
 rw [if_neg c1] at hdef
 have d2 : decide ((env.length : Int) > 4096) = false := decide_eq_false (by omega)
 have d3 : decide ((down.length : Int) > 4096) = false := decide_eq_false (by omega)
 simp (disch := omega) only [d2, d3, g5, hlen, hlen2, List.length_nil, go_sem]
 refine SRun.callR (isNet_ok hn) ⟨[], rfl, rfl⟩ rfl ?_
 cases c4 : netB n with
 | false =>
  rw [hdef, if_pos c4]
  simp (disch := omega) only [go_sem]
  exact W_retC c71_ok rfl (Conv.drop _ hσ) ⟨rfl, rfl⟩
 | true =>
  rw [if_neg (by rw [c4]; simp)] at hdef
  simp (disch := omega) only [g5, hlen, hlen2, go_sem]
  refine SRun.callR (isAround_ok hn he hd) ⟨[], rfl, rfl⟩ rfl ?_
  cases c5 : envB n env down with
  | false =>
   rw [hdef, c5]
   simp (disch := omega) only [go_sem]
   exact W_retC c71_ok rfl (Conv.drop _ hσ) ⟨rfl, rfl⟩
  | true =>
   rw [hdef, c5]
   simp (disch := omega) only [go_sem]
   exact W_retC c71_ok rfl (Conv.drop _ hσ) ⟨rfl, rfl⟩
end
section
attribute [local irreducible] SRun DS DRun
variable {Γ : St} {σ σ0 : St}
theorem fi_len (l : List Int) : (flat (ints l)).length = l.length * 1 := by rw [flat_ints, ints_len, Nat.mul_one]
theorem fi_take (l : List Int) (k : Nat) : (flat (ints l)).take (k * 1) = flat (ints (l.take k)) := by rw [flat_ints, flat_ints]; simp [ints, List.map_take]
theorem fi_drop (l : List Int) (k : Nat) : (flat (ints l)).drop (k * 1) = flat (ints (l.drop k)) := by rw [flat_ints, flat_ints]; simp [ints, List.map_drop]
theorem fi_app (l m : List Int) : flat (ints l) ++ flat (ints m) = flat (ints (l ++ m)) := by rw [flat_ints, flat_ints, flat_ints]; simp [ints]
theorem fi_zero (n : Nat) : (List.replicate n [V.int .i64 0]).flatten = flat (ints (List.replicate n (0 : Int))) := by
 induction n with
 | zero => rfl
 | succ n ih => rw [List.replicate_succ, List.flatten_cons, ih]; rfl
theorem repeatInt_own {n : Nat} (hn : 1 ≤ n ∧ n ≤ 4) {ex : Bool} {x : Int} : ACalls Tryz.prog Γ 128 [.isl ex 1 [.int .i64 x], .int .i64 n] σ fun r s => OwnL σ 1 (ints (List.replicate n x)) r s := by
 have d1 : decide ((n : Int) < 0) = false := decide_eq_false (by omega)
 have w1 : IntKind.u64.wrap 1 = 1 := by rfl
 have w2 : IntKind.u64.wrap (n : Int) = n := by rcases (by omega : n = 1 ∨ n = 2 ∨ n = 3 ∨ n = 4) with rfl | rfl | rfl | rfl <;> rfl
 have w3 : IntKind.i64.wrap (n : Int) = n := by rcases (by omega : n = 1 ∨ n = 2 ∨ n = 3 ∨ n = 4) with rfl | rfl | rfl | rfl <;> rfl
 refine acalls_W c128_ok rfl ?_
 simp (disch := omega) only [c128, d1, w1, w2, go_sem]
 refine SRun.callR (Mul_ok hn.2) ⟨[], rfl, rfl⟩ rfl ?_
 have d2 : decide ((0 : Int) > 0) = false := by rfl
 have d3 : decide ((n : Int) > 9223372036854775807) = false := decide_eq_false (by omega)
 simp (disch := omega) only [d2, d3, w3, go_sem]
 refine SRun.mkslR (n' := n) (m := n) rfl rfl rfl (Nat.le_refl _) (by omega) (by omega) ?_
 intro b hb
 rw [fi_zero]
 have hbl := fi_len (List.replicate n (0 : Int))
 rw [List.length_replicate] at hbl
 simp (disch := omega) only [go_sem]
 refine SRun.copyR (new := flat (ints [x])) (m := 1) (j := 1) (by decide) rfl (upd_same _ _ _) (by omega) (by exact src_isl (ys := ints [x])) (by show 1 = min 1 n; omega) (.inl rfl) ?_
 have hM : ∀ (l : List Int) (k j : Nat), l.length = n → k + j ≤ n → (flat (ints l)).take (k * 1) ++ (flat (ints (l.take k))).take (j * 1) ++ (flat (ints l)).drop (k * 1 + j * 1) = flat (ints (l.take k ++ (l.take k).take j ++ l.drop (k + j))) := fun l k j h1 h2 => by
  rw [fi_take, fi_take, ← Nat.add_mul, fi_drop, fi_app, fi_app]
 have h1 : (flat (ints (List.replicate n 0))).take 0 ++ (flat (ints [x])).take (1 * 1) ++ (flat (ints (List.replicate n 0))).drop (0 + 1 * 1) = flat (ints (List.replicate 1 x ++ List.replicate (n - 1) 0)) := by
  rw [fi_take, show 0 + 1 * 1 = 1 * 1 by omega, fi_drop, List.take_zero, List.nil_append, fi_app]
  congr 2
  rw [List.drop_replicate]; rfl
 rw [h1, upd_upd]
 simp (disch := omega) only [go_sem]
 refine W_loopC (α := Nat) (fun k => 1 ≤ k ∧ k ≤ n) (fun k => [(7, .msl b 1 0 n n), (8, .int .i64 (k : Nat))]) (fun k => upd σ b (flat (ints (List.replicate k x ++ List.replicate (n - k) 0)))) (fun k => n - k) 1 ⟨by omega, by omega⟩ (by simp (disch := omega) only [subT, Int.natCast_add, Int.cast_ofNat_Int, go_sem] <;> (repeat' apply And.intro) <;> first | rfl | (congr 1; omega) | assumption) rfl ?_
 rintro k ⟨hk1, hk2⟩ ih
 simp (disch := omega) only [go_sem]
 first | refine iteW_dec (fun h2 => ?_) (fun h2 => ?_) | refine iteW_of (fun h2 => ?_) (fun h2 => ?_)
 ·simp (disch := omega) only [go_sem]
  rw [W_draw]
  have e1 : (if (n : Int) = k then 0 else k) = k := if_neg (by omega)
  have e2 : ((n : Int) - k).toNat = n - k := by omega
  have e3 : ((k : Int) - 0).toNat = k := by omega
  have e4 : ((n : Int) - 0).toNat = n := by omega
  have e5 : (if (n : Int) = 0 then 0 else 0) = 0 := ite_self _
  obtain ⟨L, hL⟩ : ∃ L : List Int, L = List.replicate k x ++ List.replicate (n - k) 0 := ⟨_, rfl⟩
  have hLl : L.length = n := by rw [hL]; simp; omega
  have hLt : L.take k = List.replicate k x := by rw [hL]; exact List.take_left' (by simp)
  have hfl := fi_len L
  obtain ⟨j, hj⟩ : ∃ j, j = Nat.min k (n - k) := ⟨_, rfl⟩
  have hj1 : j ≤ k := by rw [hj]; exact Nat.min_le_left _ _
  have hj2 : j ≤ n - k := by rw [hj]; exact Nat.min_le_right _ _
  have hj3 : 1 ≤ j := by rw [hj]; show 1 ≤ min k (n - k); omega
  have hnx := hM L k j hLl (by omega)
  rw [hLt] at hnx
  have hnx2 : List.replicate k x ++ (List.replicate k x).take j ++ L.drop (k + j) = List.replicate (k + j) x ++ List.replicate (n - (k + j)) 0 := by
   rw [List.take_replicate, Nat.min_eq_left hj1, hL, List.drop_append, List.drop_replicate, List.drop_replicate, List.length_replicate, show k - (k + j) = 0 by omega, List.replicate_zero, List.nil_append, show n - k - (k + j - k) = n - (k + j) by omega, List.replicate_append_replicate]
  rw [hnx2, Nat.mul_one k] at hnx
  rw [← hL]
  refine DRun.start (DRun.mix1 (upd_same _ _ _) rfl ?_)
  simp (disch := omega) only [e1, e2, e3, e4, e5, go_sem]
  refine DS.wrQ (WrF.copy (new := flat (ints (List.replicate k x))) (m := k) (j := j) (by decide) rfl (upd_same emp b _) (by omega) ?_ hj (.inr ⟨hj1, b, 0, k, n, rfl⟩)) rfl ?_
  ·show srcV (upd emp b (flat (ints L))) 1 (.msl b 1 0 k n) = _
   simp only [srcV, if_true, upd_same]
   rw [if_pos (by omega), List.drop_zero, fi_take, hLt]
  ·rintro z s ⟨rfl, rfl⟩ _
   rw [upd_upd, hnx]
   simp (disch := omega) only [go_sem]
   refine ⟨_, rfl, ?_⟩
   exact ih (k + j) _ _ ⟨by omega, by omega⟩ (by omega) (by simp (disch := omega) only [subT, Int.natCast_add, Int.cast_ofNat_Int, go_sem] <;> (repeat' apply And.intro) <;> first | rfl | (congr 1; omega) | assumption) rfl
 ·have hkn : k = n := by omega
  subst hkn
  rw [Nat.sub_self, List.replicate_zero, List.append_nil]
  simp (disch := omega) only [go_sem]
  refine W_retC c128_ok rfl (Conv.refl _ _) ⟨.inr ⟨b, k, hb, by rw [ints_len, List.length_replicate]; rfl, rfl, by rw [fi_len, ints_len], by rw [ints_len, List.length_replicate]; omega⟩, ints_ok _⟩
end
section
attribute [local irreducible] SRun DS DRun
variable {Γ : St} {σ σ0 : St}
theorem importO_len {n : Net} (hn : NetR n) {a b : Int} {r s : Rt} (hk : 0 ≤ linkP n.links a b) (h : importO n a b r = some s) : s.len = r.len + (linkAtP n a b).cost ∧ 0 ≤ s.pref ∧ s.pref ≤ 1000 := by
 have := impGo_in hn.imp h ⟨by simp only; omega, by simp only; omega⟩
 exact ⟨this.2.1, this.2.2⟩
theorem routeO_in {n : Net} (hn : NetR n) {env : List Int} {down : List Bool} {vias : List Int} : ∀ {m : Nat} {r : Int} {x : Rt}, routeO n env down vias m r = some x → 0 ≤ x.len ∧ x.len ≤ 2 + 100 * (m : Int) := by
 intro m
 induction m with
 | zero =>
  intro r x h
  unfold routeO at h
  split at h
  ·cases h; simp [noRt]
  split at h
  ·split at h
   ·cases h; simp
   ·cases h
  split at h
  ·split at h
   ·cases h; simp [outRt]
   ·cases h
  ·cases h
 | succ m ih =>
  intro r x h
  unfold routeO at h
  split at h
  ·cases h; simp [noRt]; omega
  split at h
  ·split at h
   ·cases h; simp; omega
   ·cases h
  split at h
  ·split at h
   ·cases h; simp [outRt]; omega
   ·cases h
  split at h
  ·cases h
  rename_i hno
  split at h
  ·cases h
  rename_i y hy
  split at h
  ·cases h
  ·have hlk : 0 ≤ linkP n.links r (vias.getD r.toNat 0) := by
    rcases Int.lt_or_le (linkP n.links r (vias.getD r.toNat 0)) 0 with h1 | h1
    ·exact absurd (.inl h1) hno
    ·exact h1
   have h1 := importO_len hn hlk h
   have h2 := cost_in hn hlk
   have h3 := ih hy
   omega
set_option maxHeartbeats 1000000 in
theorem routeOf_ok {n : Net} {ex ex2 ex3 : Bool} {env : List Int} {down : List Bool} {vias : List Int} (hn : NetR n) (hdo : ∀ x ∈ n.imports, 1 ≤ x.do_ ∧ x.do_ ≤ 4) (ho : n.origins.length ≤ 1000000000000) (he : env.length = n.externals.length) (hE : (env.all fun x => inB x 0 2) = true) (hd : down.length = n.links.length)
  (hvl : vias.length = n.routers.length) (hv : ∀ i : Nat, i < vias.length → -3 ≤ vias.getD i 0 ∧ vias.getD i 0 < n.routers.length) : ∀ (m : Nat) {Γ σ : St} (r : Nat), r < vias.length → m ≤ vias.length →
  ACalls Tryz.prog Γ 111 [netV n, .isl ex 1 (ints env), .isl ex2 1 (bools down), .isl ex3 1 (ints vias), .int .i64 r, .int .i64 (vias.length - m : Nat)] σ fun q s => ∃ x, q = .tup [.agg (rtC x), .bool (routeO n env down vias m r).isSome] ∧ (∀ y, routeO n env down vias m r = some y → x = y) ∧ s = σ := by
 have r4 := hn.r4
 have l6 := hn.l6
 have i12 := hn.i12
 have x2 := hn.x2
 have hlen : (netC n).take 6 = netC n := rfl
 have hlen2 : (netC n).length = 6 := rfl
 have hrt4 : ∀ r : Rt, (rtC r).take 4 = rtC r := fun _ => rfl
 have hrt5 : ∀ r : Rt, (rtC r).length = 4 := fun _ => rfl
 have hone : ∀ r : Rt, (∀ c, c ∈ rtC r → c.one = true) = True := fun r => eq_true (rt_one r)
 have hsets : ∀ r : Rt, sets [V.int .i64 0, .int .i64 0, .int .i64 0, .bool false] 0 (rtC r) = rtC r := fun _ => rfl
 have hrt0 : ∀ r : Rt, (rtC r)[0]? = some (.int .i64 r.via) := fun _ => rfl
 intro m
 induction m using Nat.strongRecOn with
 | ind m ih =>
  intro Γ σ r hr hm
  have hR3 : vias.getD r 0 = -3 → routeO n env down vias m r = some noRt := fun h => by cases m <;> (unfold routeO; rw [Int.toNat_natCast, if_pos h])
  have hR2 : vias.getD r 0 = -2 → routeO n env down vias m r = if 0 ≤ hasI n.origins r then some ⟨-2, 200, 0, false⟩ else none := fun h => by cases m <;> (unfold routeO; rw [Int.toNat_natCast, if_neg (by omega), if_pos h])
  have hR1 : vias.getD r 0 = -1 → routeO n env down vias m r = if outB n r env then some (outRt n env r) else none := fun h => by cases m <;> (unfold routeO; rw [Int.toNat_natCast, if_neg (by omega), if_neg (by omega), if_pos h])
  have hRz : 0 ≤ vias.getD r 0 → m = 0 → routeO n env down vias m r = none := fun h e => by subst e; unfold routeO; rw [Int.toNat_natCast, if_neg (by omega), if_neg (by omega), if_neg (by omega)]
  have hRs : 0 ≤ vias.getD r 0 → ∀ k, m = k + 1 → routeO n env down vias m r = if linkP n.links r (vias.getD r 0) < 0 ∨ down.getD (linkP n.links r (vias.getD r 0)).toNat false = true then none
   else match routeO n env down vias k (vias.getD r 0) with
    | none => none
    | some x => if x.via = -3 then none else importO n r (vias.getD r 0) x := fun h k e => by
   subst e
   show (if vias.getD (r : Int).toNat 0 = -3 then some noRt else _) = _
   rw [Int.toNat_natCast, if_neg (by omega), if_neg (by omega), if_neg (by omega)]
   congr 1
  have hvr := hv r hr
  generalize hgv : vias.getD r 0 = v at *
  refine acalls_W c111_ok rfl ?_
  simp (disch := omega) only [c111, netV, go_sem]
  refine SRun.boxR (net_one n) ?_
  intro b6 hb6
  simp (disch := omega) only [go_sem]
  refine SRun.allocR ?_
  intro b12 hb12
  have n12 := upd_none.1 hb12
  have g12 := fun z => upd_same (upd σ b6 (netC n)) b12 z
  have g6 : ∀ z, upd (upd σ b6 (netC n)) b12 z b6 = some (netC n) := fun z => by rw [upd_ne _ _ n12.1.symm, upd_same]
  have hσ : ∀ z d x, σ d = some x → upd (upd σ b6 (netC n)) b12 z d = some x := fun z => le_two hb6 n12.2 _ _
  simp (disch := omega) only [hgv, go_sem]
  by_cases c3 : v = -3
  ·have d3 : decide (v = -3) = true := decide_eq_true c3
   simp (disch := omega) only [d3, g12, go_sem]
   refine W_retC c111_ok (r := .tup [.agg (rtC noRt), .bool true]) (σ' := σ) (resV_cellT rfl (g12 _) rfl rfl) (Conv.drop _ (hσ _)) ?_
   rw [hR3 c3]
   exact ⟨noRt, rfl, fun y h => by cases h; rfl, rfl⟩
  have d3 : decide (v = -3) = false := decide_eq_false c3
  by_cases c2 : v = -2
  ·have d2 : decide (v = -2) = true := decide_eq_true c2
   simp (disch := omega) only [d3, d2, g6, hlen, hlen2, go_sem]
   refine SRun.callR (ownRoute_ok (n := n) (r := (r : Int)) ho) ⟨[], rfl, rfl⟩ rfl ?_
   simp (disch := omega) only [g12, hrt5, hone, hsets, go_sem]
   refine W_retC c111_ok (r := .tup [.agg (rtC ownR), .bool (decide (0 ≤ hasI n.origins r))]) (σ' := σ) (resV_cellT rfl (g12 _) rfl rfl) (Conv.drop _ (hσ _)) ?_
   rw [hR2 c2]
   refine ⟨ownR, ?_, fun y h => ?_, rfl⟩
   ·split <;> rename_i h
    ·rw [decide_eq_true h]; rfl
    ·rw [decide_eq_false h]; rfl
   ·split at h
    ·cases h; rfl
    ·cases h
  have d2 : decide (v = -2) = false := decide_eq_false c2
  by_cases c1 : v = -1
  ·have d1 : decide (v = -1) = true := decide_eq_true c1
   simp (disch := omega) only [d3, d2, d1, g6, hlen, hlen2, go_sem]
   refine SRun.callR (outRoute_ok (n := n) (ex := ex) (env := env) (r := (r : Int)) (by omega) he hE) ⟨[], rfl, rfl⟩ rfl ?_
   simp (disch := omega) only [g12, hrt5, hone, hsets, go_sem]
   refine W_retC c111_ok (r := .tup [.agg (rtC (outR n r env)), .bool (outB n r env)]) (σ' := σ) (resV_cellT rfl (g12 _) rfl rfl) (Conv.drop _ (hσ _)) ?_
   rw [hR1 c1]
   refine ⟨outR n r env, ?_, fun y h => ?_, rfl⟩
   ·split <;> rename_i h
    ·rw [h]; rfl
    ·rw [Bool.not_eq_true] at h; rw [h]; rfl
   ·split at h
    ·rename_i h1
     cases h; unfold outR; rw [if_pos h1]; rfl
    ·cases h
  have d1 : decide (v = -1) = false := decide_eq_false c1
  have hv0 : 0 ≤ v := by omega
  have hRz := hRz hv0
  have hRs := hRs hv0
  clear hR1 hR2 hR3
  simp (disch := omega) only [d3, d2, d1, g6, hlen, hlen2, go_sem]
  refine SRun.callR (linkOf_ok (n := n) (x := (r : Int)) (y := v) (by omega)) ⟨[], rfl, rfl⟩ rfl ?_
  have hlt := (linkP_lt (ls := n.links) (a := (r : Int)) (b := v))
  have hge := (linkP_in n.links (r : Int) v).1
  generalize hat : linkP n.links r v = at_ at *
  have hfail : ∀ (x : Rt), routeO n env down vias m r = none → (∃ z, V.tup [.agg (rtC x), .bool false] = .tup [.agg (rtC z), .bool (routeO n env down vias m r).isSome] ∧ (∀ y, routeO n env down vias m r = some y → z = y) ∧ σ = σ) := fun x h => by
   rw [h]; exact ⟨x, rfl, fun y h => (by cases h), rfl⟩
  cases m with
  | zero =>
   have dm : decide (((vias.length - 0 : Nat) : Int) = vias.length) = true := decide_eq_true (by omega)
   simp (disch := omega) only [dm, g12, go_sem]
   exact W_retC c111_ok (r := .tup [.agg (rtC default), .bool false]) (σ' := σ) (resV_cellT rfl (g12 _) rfl rfl) (Conv.drop _ (hσ _)) (hfail _ (hRz rfl))
  | succ m =>
   have dm : decide (((vias.length - (m + 1) : Nat) : Int) = vias.length) = false := decide_eq_false (by omega)
   have hRs := hRs m rfl
   by_cases c4 : at_ < 0
   ·have d4 : decide (at_ < 0) = true := decide_eq_true c4
    simp (disch := omega) only [dm, d4, g12, go_sem]
    exact W_retC c111_ok (r := .tup [.agg (rtC default), .bool false]) (σ' := σ) (resV_cellT rfl (g12 _) rfl rfl) (Conv.drop _ (hσ _)) (hfail _ (by rw [hRs, if_pos (.inl c4)]))
   have d4 : decide (at_ < 0) = false := decide_eq_false c4
   simp (disch := omega) only [dm, d4, go_sem]
   cases hdn : down.getD at_.toNat false with
   | true =>
    simp (disch := omega) only [hdn, g12, go_sem]
    exact W_retC c111_ok (r := .tup [.agg (rtC default), .bool false]) (σ' := σ) (resV_cellT rfl (g12 _) rfl rfl) (Conv.drop _ (hσ _)) (hfail _ (by rw [hRs, if_pos (.inr hdn)]))
   | false =>
    rw [if_neg (by rw [hdn]; simp; omega)] at hRs
    simp (disch := omega) only [hdn, g6, hlen, hlen2, go_sem]
    obtain ⟨w, rfl⟩ : ∃ w : Nat, v = w := ⟨v.toNat, by omega⟩
    have ec : (((vias.length - (m + 1) : Nat) : Int) + 1) = ((vias.length - m : Nat) : Int) := by omega
    rw [ec]
    refine SRun.callQ (ih m (by omega) w (by omega) (by omega)) ⟨[], rfl, rfl⟩ rfl ?_
    rintro q s ⟨x, rfl, hx, hs⟩
    obtain rfl := hs.symm
    clear ih
    simp (disch := omega) only [go_sem]
    generalize hs1 : upd (upd σ b6 (netC n)) b12 [.int .i64 0, .int .i64 0, .int .i64 0, .bool false] = s1 at *
    refine SRun.allocR ?_
    intro b16 hb16
    have g16 := fun z => upd_same s1 b16 z
    have n1612 : b16 ≠ b12 := fun e => by subst e; rw [← hs1, upd_same] at hb16; cases hb16
    have hs112 : s1 b12 = some [.int .i64 0, .int .i64 0, .int .i64 0, .bool false] := by rw [← hs1, upd_same]
    have g612 : ∀ z, upd s1 b16 z b6 = some (netC n) := fun z => by
     rw [upd_ne _ _ (fun e => by subst e; rw [← hs1, g6] at hb16; cases hb16), ← hs1, g6]
    have g1212 : ∀ z, upd s1 b16 z b12 = some [.int .i64 0, .int .i64 0, .int .i64 0, .bool false] := fun z => by rw [upd_ne _ _ n1612.symm, hs112]
    have hσ2 : ∀ z y d c, σ d = some c → upd (upd s1 b16 z) b12 y d = some c := fun z y d c h => by
     have e2 : d ≠ b12 := fun e => by subst e; rw [n12.2] at h; cases h
     rw [upd_ne _ _ e2]
     exact le_upd hb16 _ _ (by rw [← hs1]; exact hσ _ _ _ h)
    cases hro : routeO n env down vias m w with
    | none =>
     rw [hro] at hRs
     simp (disch := omega) only [hrt5, hone, hsets, Option.isSome_none, g16, g1212, go_sem]
     exact W_retC c111_ok (r := .tup [.agg (rtC default), .bool false]) (σ' := σ) (resV_cellT rfl (upd_same _ _ _) rfl rfl) (Conv.drop _ (hσ2 _ _)) (hfail _ hRs)
    | some y =>
     have hxy := hx y hro
     subst hxy
     rw [hro] at hRs
     have hRs : routeO n env down vias (m + 1) r = if x.via = -3 then none else importO n r w x := hRs
     have hin := routeO_in hn hro
     by_cases c5 : x.via = -3
     ·have d5 : decide (x.via = -3) = true := decide_eq_true c5
      simp (disch := omega) only [hrt5, hone, hsets, Option.isSome_some, g16, g1212, hrt0, d5, go_sem]
      exact W_retC c111_ok (r := .tup [.agg (rtC default), .bool false]) (σ' := σ) (resV_cellT rfl (upd_same _ _ _) rfl rfl) (Conv.drop _ (hσ2 _ _)) (hfail _ (by rw [hRs, if_pos c5]))
     ·have d5 : decide (x.via = -3) = false := decide_eq_false c5
      rw [if_neg c5] at hRs
      simp (disch := omega) only [hrt5, hone, hsets, Option.isSome_some, g16, g1212, hrt0, d5, g612, hlen, hlen2, hrt4, go_sem]
      refine SRun.callR (imported_ok (n := n) (router := (r : Int)) (from_ := (w : Int)) (r := x) (by omega) (by omega) (by omega) (by omega) hn.cost hdo) ⟨[], rfl, rfl⟩ rfl ?_
      simp (disch := omega) only [hrt5, hone, hsets, g1212, go_sem]
      refine W_retC c111_ok (r := .tup [.agg (rtC (rtD (importO n r w x))), .bool (importO n r w x).isSome]) (σ' := σ) (resV_cellT rfl (upd_same _ _ _) rfl rfl) (Conv.drop _ (hσ2 _ _)) ?_
      rw [hRs]
      exact ⟨_, rfl, fun y h => by rw [h]; rfl, rfl⟩
end
section
attribute [local irreducible] SRun DS DRun
variable {Γ : St} {σ σ0 : St}
/-- What is asked of a network, of what is around it, and of choices. -/
structure Around (n : Net) (env : List Int) (down : List Bool) : Prop where
 net : NetR n
 do_ : ∀ x ∈ n.imports, 1 ≤ x.do_ ∧ x.do_ ≤ 4
 orig : n.origins.length ≤ 1000000000000
 env1 : env.length = n.externals.length
 env2 : (env.all fun x => inB x 0 2) = true
 down : down.length = n.links.length
structure ViasR (n : Net) (vias : List Int) : Prop where
 len : vias.length = n.routers.length
 ok : ∀ i : Nat, i < vias.length → -3 ≤ vias.getD i 0 ∧ vias.getD i 0 < n.routers.length
theorem routeOf0_ok {n : Net} {ex ex2 ex3 : Bool} {env : List Int} {down : List Bool} {vias : List Int} (ha : Around n env down) (hv : ViasR n vias) (r : Nat) (hr : r < vias.length) :
  ACalls Tryz.prog Γ 111 [netV n, .isl ex 1 (ints env), .isl ex2 1 (bools down), .isl ex3 1 (ints vias), .int .i64 r, .int .i64 0] σ fun q s => ∃ x, q = .tup [.agg (rtC x), .bool (routeO n env down vias vias.length r).isSome] ∧ (∀ y, routeO n env down vias vias.length r = some y → x = y) ∧ s = σ := by
 have h := routeOf_ok (Γ := Γ) (σ := σ) (ex := ex) (ex2 := ex2) (ex3 := ex3) ha.net ha.do_ ha.orig ha.env1 ha.env2 ha.down hv.len hv.ok vias.length r hr (Nat.le_refl _)
 rw [Nat.sub_self] at h
 exact h
set_option maxHeartbeats 1000000 in
theorem routesOf_own {n : Net} {ex ex2 ex3 : Bool} {env : List Int} {down : List Bool} {vias : List Int} (ha : Around n env down) (hv : ViasR n vias) :
  ACalls Tryz.prog Γ 50 [netV n, .isl ex 1 (ints env), .isl ex2 1 (bools down), .isl ex3 1 (ints vias)] σ fun q s => (routesO n env down vias = none ∧ q = .tup [.isl true 0 [], .bool false] ∧ s = σ) ∨ ∃ rs r, routesO n env down vias = some rs ∧ q = .tup [r, .bool true] ∧ OwnL σ 4 (rtsV rs) r s := by
 have hn := ha.net
 have r4 := hn.r4
 have hl := hv.len
 have hlen : (netC n).take 6 = netC n := rfl
 have hlen2 : (netC n).length = 6 := rfl
 have hrt4 : ∀ r : Rt, (rtC r).take 4 = rtC r := fun _ => rfl
 have hrt5 : ∀ r : Rt, (rtC r).length = 4 := fun _ => rfl
 have hone : ∀ r : Rt, (∀ c, c ∈ rtC r → c.one = true) = True := fun r => eq_true (rt_one r)
 have hsets : ∀ r : Rt, sets [V.int .i64 0, .int .i64 0, .int .i64 0, .bool false] 0 (rtC r) = rtC r := fun _ => rfl
 have hR : routesO n env down vias = if (List.range vias.length).all (fun (i : Nat) => (routeO n env down vias vias.length i).isSome) then some ((List.range vias.length).map fun (i : Nat) => (routeO n env down vias vias.length i).getD default) else none := rfl
 refine acalls_W c50_ok rfl ?_
 simp (disch := omega) only [c50, netV, go_sem]
 refine SRun.boxR (net_one n) ?_
 intro b4 hb4
 have g4 := upd_same σ b4 (netC n)
 have hσ : ∀ d x, σ d = some x → upd σ b4 (netC n) d = some x := le_upd hb4
 simp (disch := omega) only [go_sem]
 generalize upd σ b4 (netC n) = s1 at *
 refine W_loopC (α := Nat × V × St × St) (fun p => p.1 ≤ vias.length ∧ (∀ j : Nat, j < p.1 → (routeO n env down vias vias.length j).isSome = true) ∧ (∀ d x, s1 d = some x → p.2.2.1 d = some x) ∧ OwnL p.2.2.1 4 (rtsV ((List.range p.1).map fun (i : Nat) => (routeO n env down vias vias.length i).getD default)) p.2.1 p.2.2.2) (fun p => [(1, .isl ex 1 (ints env)), (2, .isl ex2 1 (bools down)), (3, .isl ex3 1 (ints vias)), (4, .ptr b4 0), (10, p.2.1), (15, .int .i64 vias.length), (16, .int .i64 (p.1 : Nat))]) (fun p => p.2.2.2) (fun p => vias.length - p.1) (0, _, s1, s1) ⟨by simp, fun j hj => by simp only at hj; omega, fun _ _ h => h, OwnL.nil _ 0⟩ (by simp (disch := omega) only [subT, Int.natCast_add, Int.cast_ofNat_Int, go_sem] <;> (repeat' apply And.intro) <;> first | rfl | (congr 1; omega) | assumption) rfl ?_
 rintro ⟨i, q, sb, s⟩ ⟨hi, hall, hle, ho1⟩ ih
 dsimp only at hi hall hle ho1
 have g4' := ho1.get (hle _ _ g4)
 simp (disch := omega) only [go_sem]
 first | refine iteW_dec (fun h1 => ?_) (fun h1 => ?_) | refine iteW_of (fun h1 => ?_) (fun h1 => ?_)
 ·have hi' : i < vias.length := by omega
  simp (disch := omega) only [g4', hlen, hlen2, go_sem]
  refine SRun.callQ (routeOf0_ok ha hv i hi') ⟨[], rfl, rfl⟩ rfl ?_
  rintro q2 sx ⟨x, rfl, hx, hs⟩
  obtain rfl := hs.symm
  simp (disch := omega) only [go_sem]
  refine SRun.allocR ?_
  intro b12 hb12
  have hsb : sb b12 = none := by
   cases e : sb b12 with
   | none => rfl
   | some c => rw [ho1.get e] at hb12; cases hb12
  have g12 := fun z => upd_same s b12 z
  have hoE := ho1.ext (z := rtC x) hb12
  have hle2 : ∀ d y, s1 d = some y → upd sb b12 (rtC x) d = some y := fun d y h => le_upd hsb _ _ (hle _ _ h)
  have hσ3 : ∀ z d y, σ d = some y → upd s b12 z d = some y := fun z d y h => le_upd hb12 _ _ (ho1.get (hle _ _ (hσ _ _ h)))
  have hsn : (List.range (i + 1)).map (fun (i : Nat) => (routeO n env down vias vias.length i).getD default) = (List.range i).map (fun (i : Nat) => (routeO n env down vias vias.length i).getD default) ++ [(routeO n env down vias vias.length i).getD default] := by rw [List.range_succ, List.map_append]; rfl
  have hpl : ((List.range i).map (fun (i : Nat) => (routeO n env down vias vias.length i).getD default)).length = i := by simp
  cases hro : routeO n env down vias vias.length i with
  | none =>
   have hno : routesO n env down vias = none := by
    rw [hR, if_neg]
    intro h
    have := List.all_eq_true.1 h i (List.mem_range.2 hi')
    rw [hro] at this; cases this
   simp (disch := omega) only [hrt5, hone, hsets, g12, Option.isSome_none, go_sem]
   exact W_retC c50_ok (r := .tup [.isl true 0 [], .bool false]) (σ' := σ) rfl (Conv.drop _ (hσ3 _)) (.inl ⟨hno, rfl, rfl⟩)
  | some y =>
   have hxy := hx y hro
   subst hxy
   rw [hro, Option.getD_some] at hsn
   simp (disch := omega) only [hrt5, hone, hsets, g12, Option.isSome_some, hrt4, true_and, go_sem]
   refine SRun.appL hoE rfl (rt1_ok x) (by rw [rtsV_len, hpl]; simp only [List.length_singleton]; omega) ?_
   intro q3 s3 ho3
   rw [rts_app, ← hsn] at ho3
   simp (disch := omega) only [go_sem]
   refine ih (i + 1, q3, _, s3) _ _ ⟨by simp only; omega, fun j hj => ?_, hle2, ho3⟩ (by simp only; omega) (by simp (disch := omega) only [subT, Int.natCast_add, Int.cast_ofNat_Int, go_sem] <;> (repeat' apply And.intro) <;> first | rfl | (congr 1; omega) | assumption) rfl
   by_cases e : j = i
   ·subst e; rw [hro]; rfl
   ·exact hall j (by simp only at hj; omega)
 ·have hil : i = vias.length := by omega
  subst hil
  obtain ⟨s2, hle2, ho2⟩ := ownL_less ho1 (fun d x h => hle _ _ (hσ _ _ h))
  simp (disch := omega) only [go_sem]
  refine W_retC c50_ok rfl (Conv.drop _ hle2) (.inr ⟨_, _, ?_, rfl, ho2⟩)
  rw [hR, if_pos]
  rw [List.all_eq_true]
  exact fun j hj => hall j (List.mem_range.1 hj)
end
section
attribute [local irreducible] SRun DS DRun
variable {Γ : St} {σ σ0 : St}
theorem routesO_w {n : Net} {env : List Int} {down : List Bool} {vias : List Int} {rs : List Rt} (hn : NetR n) (hv : ViasR n vias) (h : routesO n env down vias = some rs) : rs.length = n.routers.length ∧ RtsW rs := by
 have r1 := hn.r1
 have r4 := hn.r4
 obtain ⟨h1, h2, h3⟩ := routesO_some h
 have hl := hv.len
 refine ⟨by omega, ?_⟩
 have hdf : ∀ v : Int, ¬ v.toNat < rs.length → rtAt rs v = default := fun v hv => by simp [rtAt, List.getD, List.getElem?_eq_none (by omega : rs.length ≤ v.toNat)]
 constructor
 ·intro v
  by_cases hvl : v.toNat < rs.length
  ·have := routeO_via (h3 v.toNat (by omega))
   rw [Int.toNat_natCast] at this
   have := (hv.ok v.toNat (by omega)).2
   show (rs.getD v.toNat default).via < _
   omega
  ·rw [hdf v hvl]; show (0 : Int) < _; omega
 ·intro v
  by_cases hvl : v.toNat < rs.length
  ·have := routeO_in hn (h3 v.toNat (by omega))
   show 0 ≤ (rs.getD v.toNat default).len ∧ (rs.getD v.toNat default).len ≤ _
   omega
  ·rw [hdf v hvl]; show (0 : Int) ≤ 0 ∧ (0 : Int) ≤ _; omega
theorem dig_in {B : Nat} (hB : 0 < B) : ∀ (m t i : Nat), i < m → -3 ≤ (dig B m t).getD i 0 ∧ (dig B m t).getD i 0 < (B : Int) - 3 := by
 intro m
 induction m with
 | zero => intro t i h; omega
 | succ m ih =>
  intro t i h
  by_cases e : i = m
  ·subst e
   have : (dig B (i + 1) t).getD i 0 = ((t % B : Nat) : Int) - 3 := by
    have hl := dig_len B i (t / B)
    rw [dig]; simp [List.getD, List.getElem?_append, hl]
   rw [this]
   have := Nat.mod_lt t hB
   omega
  ·have : (dig B (m + 1) t).getD i 0 = (dig B m (t / B)).getD i 0 := by
    have hl := dig_len B m (t / B)
    rw [dig]; simp [List.getD, List.getElem?_append, hl, show i < m by omega]
   rw [this]; exact ih _ _ (by omega)
theorem dig_viasR {n : Net} {t : Nat} : ViasR n (dig (n.routers.length + 3) n.routers.length t) := by
 refine ⟨dig_len _ _ _, fun i hi => ?_⟩
 rw [dig_len] at hi
 have := dig_in (B := n.routers.length + 3) (by omega) n.routers.length t i hi
 omega
theorem dig_zero (B : Nat) (hB : 0 < B) (m : Nat) : dig B m 0 = List.replicate m (-3) := by
 have := dig_mul hB 0 0 m
 simpa [dig] using this
/-- The choices while the last ones are set back. -/
def wnd (B L j q : Nat) : List Int := dig B (L - j) q ++ List.replicate j (-3)
theorem wnd_len {B L j q : Nat} (h : j ≤ L) : (wnd B L j q).length = L := by rw [wnd, List.length_append, dig_len, List.length_replicate]; omega
theorem wnd_at {B L j q : Nat} (h : j < L) : (wnd B L j q).getD (L - 1 - j) 0 = ((q % B : Nat) : Int) - 3 := by
 have h1 : L - j = (L - 1 - j) + 1 := by omega
 have hl := dig_len B (L - 1 - j) (q / B)
 rw [wnd, h1, dig]
 simp [List.getD, List.getElem?_append, hl]
theorem wnd_set {B L j q : Nat} (h : j < L) (x : Int) : (wnd B L j q).set (L - 1 - j) x = dig B (L - 1 - j) (q / B) ++ [x] ++ List.replicate j (-3) := by
 have h1 : L - j = (L - 1 - j) + 1 := by omega
 have hl := dig_len B (L - 1 - j) (q / B)
 rw [wnd, h1, dig]
 rw [List.set_append_left _ _ (by simp [hl])]
 congr 1
 rw [List.set_append_right _ _ (by omega), hl]
 simp
theorem wnd_back {B L j q : Nat} (h : j < L) : (wnd B L j q).set (L - 1 - j) (-3) = wnd B L (j + 1) (q / B) := by
 rw [wnd_set h, wnd, List.replicate_succ, show L - (j + 1) = L - 1 - j by omega]
 simp
theorem wnd_next {B L j q t : Nat} (hB : 0 < B) (h : j < L) (hq : q % B + 1 < B) (ht : t + 1 = (q + 1) * B ^ j) : (wnd B L j q).set (L - 1 - j) (((q % B : Nat) : Int) - 3 + 1) = dig B L (t + 1) := by
 rw [wnd_set h, ht]
 have h1 := dig_mul hB (L - j) (q + 1) j
 rw [show L - j + j = L by omega] at h1
 rw [h1, show L - j = (L - 1 - j) + 1 by omega, dig]
 have hd := Nat.div_add_mod q B
 have e1 : (q + 1) / B = q / B := by
  rw [Nat.div_eq_iff hB]
  have := Nat.div_add_mod q B
  rw [Nat.mul_comm] at this
  constructor
  ·omega
  ·omega
 have e2 : (q + 1) % B = q % B + 1 := by
  have h3 := Nat.div_add_mod (q + 1) B
  rw [e1] at h3; omega
 rw [e1, e2, show ((q % B : Nat) : Int) - 3 + 1 = ((q % B + 1 : Nat) : Int) - 3 by omega]
theorem wnd_step {B j q t : Nat} (hq : q % B + 1 = B) (ht : t + 1 = (q + 1) * B ^ j) : t + 1 = (q / B + 1) * B ^ (j + 1) := by
 have hd := Nat.div_add_mod q B
 rw [ht, Nat.pow_succ, Nat.mul_comm (B ^ j) B, ← Nat.mul_assoc]
 congr 1
 rw [Nat.add_mul, Nat.mul_comm (q / B) B]; omega
theorem wnd_lt {B L j q t : Nat} (hB : 0 < B) (h : j < L) (hq : q % B + 1 < B) (ht : t + 1 = (q + 1) * B ^ j) : t + 1 ≠ B ^ L := by
 intro e
 have h1 : B ^ L = B ^ (L - 1 - j) * B * B ^ j := by rw [← Nat.pow_succ, ← Nat.pow_add]; congr 1; omega
 rw [ht, h1] at e
 have e2 := Nat.eq_of_mul_eq_mul_right (Nat.pow_pos hB) e
 have e3 : (q + 1) % B = 0 := by rw [e2]; exact Nat.mul_mod_left _ _
 have hd := Nat.div_add_mod q B
 have hd2 := Nat.div_add_mod (q + 1) B
 rw [e3] at hd2
 have e4 : (q + 1) / B = q / B := by
  rw [Nat.div_eq_iff hB]
  rw [Nat.mul_comm] at hd
  constructor
  ·omega
  ·omega
 rw [e4] at hd2
 omega
theorem ints_setN {xs : List Int} {i : Nat} {y : Int} : (ints xs).set i (.int .i64 y) = ints (xs.set i y) := by simp [ints, List.map_set]
theorem getD_is {l : List Int} {i : Nat} (h : i < l.length) : l[i]? = some (l.getD i 0) := by simp [List.getD, h]
end
end Go.Proofs.YtabelcohkpmpnaaGreat.Lg
