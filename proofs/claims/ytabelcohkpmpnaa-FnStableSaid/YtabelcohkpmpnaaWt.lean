/- Routes, the program's: comparing, repeating. -/
import Derived.Test.YtabelcohkpmpnaaWq
import Derived.Test.YtabelcohkpmpnaaWx
import Derived.Test.YtabelcohkpmpnaaLgJ
set_option linter.unusedSimpArgs false
set_option linter.unusedVariables false
namespace Go.Proofs.Ytabelcohkpmpnaa.Lg
open Go
attribute [local irreducible] SRun DS DRun
variable {Γ : St} {σ σ0 : St}
theorem isNaNInt_ok {x : Int} : Ret Try.prog Γ 181 [.int .i64 x] σ (.bool false) σ := by
  have h : (decide ¬ x = x) = false := by simp
  refine ret_of c181_ok rfl ?_
  simp (disch := omega) only [c181, h, go_sem, ↓if_pos, ne_eq, ↓reduceIte]
  refine W_retR c181_ok rfl ⟨?_, rfl⟩
  rfl
def cmpP (a b : Int) : Int := if a < b then -1 else if b < a then 1 else 0
theorem compareInt_ok {a b : Int} : Ret Try.prog Γ 174 [.int .i64 a, .int .i64 b] σ (.int .i64 (cmpP a b)) σ := by
  refine ret_of c174_ok rfl ?_
  simp (disch := omega) only [c174, go_sem, ↓if_pos, ne_eq, ↓reduceIte]
  refine SRun.callR isNaNInt_ok ⟨[], rfl, rfl⟩ rfl ?_
  simp (disch := omega) only [go_sem, ↓if_pos, ne_eq, ↓reduceIte]
  refine SRun.callR isNaNInt_ok ⟨[], rfl, rfl⟩ rfl ?_
  unfold cmpP
  simp (disch := omega) only [go_sem, ↓if_pos, ne_eq, ↓reduceIte]
  first | refine iteW_dec (fun h1 => ?_) (fun h1 => ?_) | refine iteW_of (fun h1 => ?_) (fun h1 => ?_)
  · rw [if_pos h1]
    simp (disch := omega) only [go_sem, ↓if_pos, ne_eq, ↓reduceIte]
    exact W_retR c174_ok rfl ⟨rfl, rfl⟩
  rw [if_neg h1]
  simp (disch := omega) only [go_sem, ↓if_pos, ne_eq, ↓reduceIte]
  first | refine iteW_dec (fun h2 => ?_) (fun h2 => ?_) | refine iteW_of (fun h2 => ?_) (fun h2 => ?_)
  · rw [if_pos (by omega)]
    simp (disch := omega) only [go_sem, ↓if_pos, ne_eq, ↓reduceIte]
    exact W_retR c174_ok rfl ⟨rfl, rfl⟩
  · rw [if_neg (by omega)]
    simp (disch := omega) only [go_sem, ↓if_pos, ne_eq, ↓reduceIte]
    exact W_retR c174_ok rfl ⟨rfl, rfl⟩
def orP : List Int → Int
  | [] => 0
  | x :: r => if x ≠ 0 then x else orP r
theorem orInt_ok {ex : Bool} {xs : List Int} (hl : xs.length ≤ 1000000000000) : Ret Try.prog Γ 173 [.isl ex 1 (ints xs)] σ (.int .i64 (orP xs)) σ := by
  refine ret_of c173_ok rfl ?_
  simp (disch := omega) only [c173, go_sem, ↓if_pos, ne_eq, ↓reduceIte]
  refine W_loopC (α := Nat) (fun i => i ≤ xs.length ∧ orP xs = orP (xs.drop i)) (fun i => [(3, .int .i64 0), (6, .isl ex 1 (ints xs)), (7, .int .i64 xs.length), (8, .int .i64 (i : Nat))]) (fun _ => σ) (fun i => xs.length - i) 0 ⟨by omega, rfl⟩ (by simp (disch := omega) only [subT, Int.natCast_add, Int.cast_ofNat_Int, go_sem, ↓if_pos, ne_eq, ↓reduceIte] <;> (repeat' apply And.intro) <;> first | rfl | (congr 1; omega) | assumption) rfl ?_
  rintro i ⟨hi, he⟩ ih
  simp (disch := omega) only [go_sem, ↓if_pos, ne_eq, ↓reduceIte]
  first | refine iteW_dec (fun h1 => ?_) (fun h1 => ?_) | refine iteW_of (fun h1 => ?_) (fun h1 => ?_)
  · rw [drop_cons (xs := xs) 0 (by omega), orP] at he
    simp (disch := omega) only [go_sem, ↓if_pos, ne_eq, ↓reduceIte]
    first | refine iteW_dec (fun h2 => ?_) (fun h2 => ?_) | refine iteW_of (fun h2 => ?_) (fun h2 => ?_)
    · rw [if_pos h2] at he
      rw [he]
      simp (disch := omega) only [go_sem, ↓if_pos, ne_eq, ↓reduceIte]
      exact W_retR c173_ok rfl ⟨rfl, rfl⟩
    · rw [if_neg h2] at he
      simp (disch := omega) only [go_sem, ↓if_pos, ne_eq, ↓reduceIte]
      exact ih (i + 1) _ _ ⟨by omega, he⟩ (by omega) (by simp (disch := omega) only [subT, Int.natCast_add, Int.cast_ofNat_Int, go_sem, ↓if_pos, ne_eq, ↓reduceIte] <;> (repeat' apply And.intro) <;> first | rfl | (congr 1; omega) | assumption) rfl
  · have hil : i = xs.length := by omega
    rw [hil, List.drop_length] at he
    rw [he]
    simp (disch := omega) only [go_sem, ↓if_pos, ne_eq, ↓reduceIte]
    exact W_retR c173_ok rfl ⟨rfl, rfl⟩
theorem cmpP_lt {a b : Int} (h : a < b) : cmpP a b = -1 := if_pos h
theorem cmpP_eq {a b : Int} (h : a = b) : cmpP a b = 0 := by unfold cmpP; rw [if_neg (by omega), if_neg (by omega)]
theorem cmpP_gt {a b : Int} (h : b < a) : cmpP a b = 1 := by unfold cmpP; rw [if_neg (by omega), if_pos h]
theorem better_or (a b : Rt) : decide (orP [cmpP b.pref a.pref, cmpP a.len b.len, cmpP a.via b.via] < 0) = betterP a b := by
  unfold betterP
  rcases Int.lt_trichotomy b.pref a.pref with h1 | h1 | h1
  · rw [cmpP_lt h1, if_pos (by omega), decide_eq_true h1]; rfl
  · rw [cmpP_eq h1, if_neg (by omega)]
    rcases Int.lt_trichotomy a.len b.len with h2 | h2 | h2
    · rw [cmpP_lt h2, if_pos (by omega), decide_eq_true h2]; rfl
    · rw [cmpP_eq h2, if_neg (by omega)]
      rcases Int.lt_trichotomy a.via b.via with h3 | h3 | h3
      · rw [cmpP_lt h3, decide_eq_true h3]; rfl
      · rw [cmpP_eq h3, decide_eq_false (by omega : ¬ a.via < b.via)]; rfl
      · rw [cmpP_gt h3, decide_eq_false (by omega : ¬ a.via < b.via)]; rfl
    · rw [cmpP_gt h2, if_pos (by omega), decide_eq_false (by omega : ¬ a.len < b.len)]; rfl
  · rw [cmpP_gt h1, if_pos (by omega), decide_eq_false (by omega : ¬ b.pref < a.pref)]; rfl
theorem isBetter_ok {a b : Rt} : Ret Try.prog Γ 149 [.agg (rtC a), .agg (rtC b)] σ (.bool (betterP a b)) σ := by
  refine ret_of c149_ok rfl ?_
  simp (disch := omega) only [c149, rtC, go_sem, ↓if_pos, ne_eq, ↓reduceIte]
  refine SRun.boxR (by simp [ev, look, V.cells, V.one]) ?_
  intro b2 hb2
  simp (disch := omega) only [go_sem, ↓if_pos, ne_eq, ↓reduceIte]
  refine SRun.boxR (by simp [ev, look, V.cells, V.one]) ?_
  intro b3 hb3
  have n32 := (upd_none.1 hb3).1
  have n3 := (upd_none.1 hb3).2
  have hle := le_two hb2 n3
  simp (disch := omega) only [n32.symm, go_sem, ↓if_pos, ne_eq, ↓reduceIte]
  rw [W_draw]
  refine DRun.start (DRun.mixE rfl ?_)
  simp (disch := omega) only [n32.symm, go_sem, ↓if_pos, ne_eq, ↓reduceIte]
  refine DS.callG (ACalls.mono _ _ (compareInt_ok (σ := emp)) fun _ _ h => h) ⟨[], rfl, rfl⟩ rfl rfl ?_
  rintro r s ⟨rfl, hs⟩ _
  obtain rfl := hs.symm
  simp (disch := omega) only [go_sem, ↓if_pos, ne_eq, ↓reduceIte]
  refine DS.callG (ACalls.mono _ _ (compareInt_ok (σ := emp)) fun _ _ h => h) ⟨[], rfl, rfl⟩ rfl rfl ?_
  rintro r s ⟨rfl, hs⟩ _
  obtain rfl := hs.symm
  simp (disch := omega) only [go_sem, ↓if_pos, ne_eq, ↓reduceIte]
  refine DRun.callQ (compareInt_ok) ⟨[], rfl, rfl⟩ ?_
  rintro r s ⟨rfl, hs⟩
  obtain rfl := hs.symm
  simp (disch := omega) only [go_sem, ↓if_pos, ne_eq, ↓reduceIte]
  refine DRun.callQ (orInt_ok (ex := true) (xs := [cmpP b.pref a.pref, cmpP a.len b.len, cmpP a.via b.via]) (by simp)) ⟨[], rfl, rfl⟩ ?_
  rintro r s ⟨rfl, hs⟩
  obtain rfl := hs.symm
  rw [← better_or]
  simp (disch := omega) only [go_sem, ↓if_pos, ne_eq, ↓reduceIte]
  exact W_retC c149_ok rfl (Conv.drop _ (hle _ _)) ⟨rfl, rfl⟩
theorem Mul64_ok {n : Nat} (hn : n ≤ 4) : Ret Try.prog Γ 172 [.int .u64 1, .int .u64 n] σ (.tup [.int .u64 0, .int .u64 n]) σ := by
  rcases (by omega : n = 0 ∨ n = 1 ∨ n = 2 ∨ n = 3 ∨ n = 4) with rfl | rfl | rfl | rfl | rfl
  all_goals
    refine ret_of c172_ok rfl ?_
    simp (disch := omega) only [c172, go_sem, ↓if_pos, ne_eq, ↓reduceIte]
    exact W_retR c172_ok rfl ⟨rfl, rfl⟩
theorem stepK_eqaR {neg : Bool} {a b : Rt} {K : V → St → Prop} : stepK (.eqa neg [0, 0, 0, 1] (.c (.agg (rtC a))) (.c (.agg (rtC b)))) σ K = K (.bool (neg != decide (a = b))) σ := by
  rw [stepK_eqa]
  have h := rt_dec a b
  rw [← h]
  cases neg <;> simp [pureI, eqK, pureK, ev, int_beq, rtC]
theorem equalRt_ok {ex ex2 : Bool} {xs ys : List Rt} (hl : xs.length ≤ 1000000000) : Ret Try.prog Γ 68 [.isl ex 4 (rtsV xs), .isl ex2 4 (rtsV ys)] σ (.bool (decide (xs = ys))) σ := by
  refine ret_of c68_ok rfl ?_
  simp (disch := omega) only [c68, go_sem, ↓if_pos, ne_eq, ↓reduceIte]
  by_cases c1 : xs.length = ys.length
  case' neg =>
    have d1 : (decide ¬ (xs.length : Int) = ys.length) = true := decide_eq_true (by omega)
    rw [decide_eq_false (fun e => c1 (by rw [e]))]
    simp (disch := omega) only [d1, go_sem, ↓if_pos, ne_eq, ↓reduceIte]
    exact W_retR c68_ok rfl ⟨rfl, rfl⟩
  have d1 : (decide ¬ (xs.length : Int) = ys.length) = false := decide_eq_false (by omega)
  simp (disch := omega) only [d1, go_sem, ↓if_pos, ne_eq, ↓reduceIte]
  refine W_loopC (α := Nat) (fun i => i ≤ xs.length ∧ ∀ j, j < i → xs.getD j default = ys.getD j default) (fun i => [(0, .isl ex 4 (rtsV xs)), (1, .isl ex2 4 (rtsV ys)), (11, .isl ex 4 (rtsV xs)), (12, .int .i64 xs.length), (13, .int .i64 (i : Nat))]) (fun _ => σ) (fun i => xs.length - i) 0 ⟨by omega, fun j hj => by omega⟩ (by simp (disch := omega) only [subT, Int.natCast_add, Int.cast_ofNat_Int, go_sem, ↓if_pos, ne_eq, ↓reduceIte] <;> (repeat' apply And.intro) <;> first | rfl | (congr 1; omega) | assumption) rfl ?_
  rintro i ⟨hi, hall⟩ ih
  have hrt4 : ∀ r : Rt, (rtC r).take 4 = rtC r := fun _ => rfl
  have hrt5 : ∀ r : Rt, (rtC r).length = 4 := fun _ => rfl
  simp (disch := omega) only [go_sem, ↓if_pos, ne_eq, ↓reduceIte]
  first | refine iteW_dec (fun h1 => ?_) (fun h1 => ?_) | refine iteW_of (fun h1 => ?_) (fun h1 => ?_)
  · have hq := rt_dec (xs.getD i default) (ys.getD i default)
    simp (disch := omega) only [go_sem, ↓if_pos, ne_eq, ↓reduceIte]
    refine W_drawW ?_
    simp (disch := omega) only [hrt4, hrt5, stepK_eqaR, bne_t, go_sem, ↓if_pos, ne_eq, ↓reduceIte]
    first | refine iteW_dec (fun c2 => ?_) (fun c2 => ?_) | refine iteW_of (fun c2 => ?_) (fun c2 => ?_)
    · rw [decide_eq_false (fun e => c2 (by rw [e]))]
      simp (disch := omega) only [go_sem, ↓if_pos, ne_eq, ↓reduceIte]
      exact W_retR c68_ok rfl ⟨rfl, rfl⟩
    · simp (disch := omega) only [go_sem, ↓if_pos, ne_eq, ↓reduceIte]
      refine ih (i + 1) _ _ ⟨by omega, fun j hj => ?_⟩ (by omega) (by simp (disch := omega) only [subT, Int.natCast_add, Int.cast_ofNat_Int, go_sem, ↓if_pos, ne_eq, ↓reduceIte] <;> (repeat' apply And.intro) <;> first | rfl | (congr 1; omega) | assumption) rfl
      by_cases e : j = i
      · subst e; exact Decidable.not_not.1 c2
      · exact hall j (by omega)
  · have hil : i = xs.length := by omega
    subst hil
    have he : xs = ys := List.ext_getElem c1 fun j h1 h2 => by
      have := hall j h1
      simpa [List.getD, h1, h2] using this
    rw [decide_eq_true he]
    simp (disch := omega) only [go_sem, ↓if_pos, ne_eq, ↓reduceIte]
    exact W_retR c68_ok rfl ⟨rfl, rfl⟩
theorem Mul_ok {n : Nat} (hn : n ≤ 4) : Ret Try.prog Γ 131 [.int .u64 1, .int .u64 n] σ (.tup [.int .u64 0, .int .u64 n]) σ := by
  refine ret_of c131_ok rfl ?_
  simp (disch := omega) only [c131, go_sem, ↓if_pos, ne_eq, ↓reduceIte]
  refine SRun.callR (Mul64_ok hn) ⟨[], rfl, rfl⟩ rfl ?_
  simp (disch := omega) only [go_sem, ↓if_pos, ne_eq, ↓reduceIte]
  exact W_retR c131_ok rfl ⟨rfl, rfl⟩
theorem flat_rts_cons (a : Rt) (l : List Rt) : flat (rtsV (a :: l)) = rtC a ++ flat (rtsV l) := rfl
theorem flat_rts_take : ∀ (l : List Rt) (k : Nat), (flat (rtsV l)).take (k * 4) = flat (rtsV (l.take k)) := by
  intro l
  induction l with
  | nil => intro k; simp [rtsV, flat]
  | cons a l ih =>
    intro k
    cases k with
    | zero => simp [rtsV, flat]
    | succ k =>
      rw [List.take_succ_cons, flat_rts_cons, flat_rts_cons, ← ih k, show (k + 1) * 4 = k * 4 + 4 by omega]
      rfl
theorem flat_rts_drop : ∀ (l : List Rt) (k : Nat), (flat (rtsV l)).drop (k * 4) = flat (rtsV (l.drop k)) := by
  intro l
  induction l with
  | nil => intro k; simp [rtsV, flat]
  | cons a l ih =>
    intro k
    cases k with
    | zero => simp
    | succ k =>
      rw [List.drop_succ_cons, flat_rts_cons, ← ih k, show (k + 1) * 4 = k * 4 + 4 by omega]
      rfl
theorem flat_rts_app (l m : List Rt) : flat (rtsV l) ++ flat (rtsV m) = flat (rtsV (l ++ m)) := by simp [rtsV, flat_append, ← flat_append]
theorem flat_rts_zero (n : Nat) : (List.replicate n [V.int .i64 0, .int .i64 0, .int .i64 0, .bool false]).flatten = flat (rtsV (List.replicate n (default : Rt))) := by
  induction n with
  | zero => rfl
  | succ n ih => rw [List.replicate_succ, List.flatten_cons, ih]; rfl
theorem repeatRt_own {n : Nat} (hn : 1 ≤ n ∧ n ≤ 4) {ex : Bool} {x : Rt} : ACalls Try.prog Γ 66 [.isl ex 4 [.agg (rtC x)], .int .i64 n] σ fun r s => OwnL σ 4 (rtsV (List.replicate n x)) r s := by
  have d1 : decide ((n : Int) < 0) = false := decide_eq_false (by omega)
  have w1 : IntKind.u64.wrap 1 = 1 := by rfl
  have w2 : IntKind.u64.wrap (n : Int) = n := by rcases (by omega : n = 1 ∨ n = 2 ∨ n = 3 ∨ n = 4) with rfl | rfl | rfl | rfl <;> rfl
  have w3 : IntKind.i64.wrap (n : Int) = n := by rcases (by omega : n = 1 ∨ n = 2 ∨ n = 3 ∨ n = 4) with rfl | rfl | rfl | rfl <;> rfl
  refine acalls_W c66_ok rfl ?_
  simp (disch := omega) only [c66, d1, w1, w2, go_sem, ↓if_pos, ne_eq, ↓reduceIte]
  refine SRun.callR (Mul_ok hn.2) ⟨[], rfl, rfl⟩ rfl ?_
  have d2 : decide ((0 : Int) > 0) = false := by rfl
  have d3 : decide ((n : Int) > 9223372036854775807) = false := decide_eq_false (by omega)
  simp (disch := omega) only [d2, d3, w3, go_sem, ↓if_pos, ne_eq, ↓reduceIte]
  refine SRun.mkslR (n' := n) (m := n) rfl rfl rfl (Nat.le_refl _) (by omega) (by omega) ?_
  intro b hb
  rw [flat_rts_zero]
  have hbl := flat_rts_len (List.replicate n (default : Rt))
  rw [List.length_replicate] at hbl
  simp (disch := omega) only [go_sem, ↓if_pos, ne_eq, ↓reduceIte]
  refine SRun.copyR (new := flat (rtsV [x])) (m := 1) (j := 1) (by decide) rfl (upd_same _ _ _) (by omega) (by exact src_isl (ys := rtsV [x])) (by show 1 = min 1 n; omega) (.inl rfl) ?_
  have hM : ∀ (l : List Rt) (k j : Nat), l.length = n → k + j ≤ n → (flat (rtsV l)).take (k * 4) ++ (flat (rtsV (l.take k))).take (j * 4) ++ (flat (rtsV l)).drop (k * 4 + j * 4) = flat (rtsV (l.take k ++ (l.take k).take j ++ l.drop (k + j))) := fun l k j h1 h2 => by
    rw [flat_rts_take, flat_rts_take, ← Nat.add_mul, flat_rts_drop, flat_rts_app, flat_rts_app]
  have h1 : (flat (rtsV (List.replicate n default))).take 0 ++ (flat (rtsV [x])).take (1 * 4) ++ (flat (rtsV (List.replicate n default))).drop (0 + 1 * 4) = flat (rtsV (List.replicate 1 x ++ List.replicate (n - 1) default)) := by
    rw [flat_rts_take, show 0 + 1 * 4 = 1 * 4 by omega, flat_rts_drop, List.take_zero, List.nil_append, flat_rts_app]
    congr 2
    rw [List.drop_replicate]; rfl
  rw [h1, upd_upd]
  simp (disch := omega) only [go_sem, ↓if_pos, ne_eq, ↓reduceIte]
  refine W_loopC (α := Nat) (fun k => 1 ≤ k ∧ k ≤ n) (fun k => [(7, .msl b 4 0 n n), (8, .int .i64 (k : Nat))]) (fun k => upd σ b (flat (rtsV (List.replicate k x ++ List.replicate (n - k) default)))) (fun k => n - k) 1 ⟨by omega, by omega⟩ (by simp (disch := omega) only [subT, Int.natCast_add, Int.cast_ofNat_Int, go_sem, ↓if_pos, ne_eq, ↓reduceIte] <;> (repeat' apply And.intro) <;> first | rfl | (congr 1; omega) | assumption) rfl ?_
  rintro k ⟨hk1, hk2⟩ ih
  simp (disch := omega) only [go_sem, ↓if_pos, ne_eq, ↓reduceIte]
  first | refine iteW_dec (fun h2 => ?_) (fun h2 => ?_) | refine iteW_of (fun h2 => ?_) (fun h2 => ?_)
  · simp (disch := omega) only [go_sem, ↓if_pos, ne_eq, ↓reduceIte]
    rw [W_draw]
    have e1 : (if (n : Int) = k then 0 else k * 4) = k * 4 := if_neg (by omega)
    have e2 : ((n : Int) - k).toNat = n - k := by omega
    have e3 : ((k : Int) - 0).toNat = k := by omega
    have e4 : ((n : Int) - 0).toNat = n := by omega
    have e5 : (if (n : Int) = 0 then 0 else 0) = 0 := ite_self _
    obtain ⟨L, hL⟩ : ∃ L : List Rt, L = List.replicate k x ++ List.replicate (n - k) default := ⟨_, rfl⟩
    have hLl : L.length = n := by rw [hL]; simp; omega
    have hLt : L.take k = List.replicate k x := by rw [hL]; exact List.take_left' (by simp)
    have hfl := flat_rts_len L
    obtain ⟨j, hj⟩ : ∃ j, j = Nat.min k (n - k) := ⟨_, rfl⟩
    have hj1 : j ≤ k := by rw [hj]; exact Nat.min_le_left _ _
    have hj2 : j ≤ n - k := by rw [hj]; exact Nat.min_le_right _ _
    have hj3 : 1 ≤ j := by rw [hj]; show 1 ≤ min k (n - k); omega
    have hnx := hM L k j hLl (by omega)
    rw [hLt] at hnx
    have hnx2 : List.replicate k x ++ (List.replicate k x).take j ++ L.drop (k + j) = List.replicate (k + j) x ++ List.replicate (n - (k + j)) default := by
      rw [List.take_replicate, Nat.min_eq_left hj1, hL, List.drop_append, List.drop_replicate, List.drop_replicate, List.length_replicate, show k - (k + j) = 0 by omega, List.replicate_zero, List.nil_append, show n - k - (k + j - k) = n - (k + j) by omega, List.replicate_append_replicate]
    rw [hnx2] at hnx
    rw [← hL]
    refine DRun.start (DRun.mix1 (upd_same _ _ _) rfl ?_)
    simp (disch := omega) only [e1, e2, e3, e4, e5, go_sem, ↓if_pos, ne_eq, ↓reduceIte]
    refine DS.wrQ (WrF.copy (new := flat (rtsV (List.replicate k x))) (m := k) (j := j) (by decide) rfl (upd_same emp b _) (by omega) ?_ hj (.inr ⟨hj1, b, 0, k, n, rfl⟩)) rfl ?_
    · show srcV (upd emp b (flat (rtsV L))) 4 (.msl b 4 0 k n) = _
      simp only [srcV, if_true, upd_same]
      rw [if_pos (by omega), List.drop_zero, flat_rts_take, hLt]
    · rintro z s ⟨rfl, rfl⟩ _
      rw [upd_upd, hnx]
      simp (disch := omega) only [go_sem, ↓if_pos, ne_eq, ↓reduceIte]
      refine ⟨_, rfl, ?_⟩
      exact ih (k + j) _ _ ⟨by omega, by omega⟩ (by omega) (by simp (disch := omega) only [subT, Int.natCast_add, Int.cast_ofNat_Int, go_sem, ↓if_pos, ne_eq, ↓reduceIte] <;> (repeat' apply And.intro) <;> first | rfl | (congr 1; omega) | assumption) rfl
  · have hkn : k = n := by omega
    subst hkn
    rw [Nat.sub_self, List.replicate_zero, List.append_nil]
    simp (disch := omega) only [go_sem, ↓if_pos, ne_eq, ↓reduceIte]
    refine W_retC c66_ok rfl (Conv.refl _ _) ⟨.inr ⟨b, k, hb, by rw [rtsV_len, List.length_replicate]; rfl, rfl, by rw [flat_rts_len, rtsV_len], by rw [rtsV_len, List.length_replicate]; omega⟩, rts_ok _⟩
end Go.Proofs.Ytabelcohkpmpnaa.Lg
