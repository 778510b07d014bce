/- Questions drawn. -/
import Derived.Test.YtjibkkhgejcjeaaGreatDoorXz
set_option linter.unusedSimpArgs false
set_option linter.unusedVariables false
namespace Go.Proofs.YtjibkkhgejcjeaaGreatDoor.Lg
open Go Go.Lib
attribute [local irreducible] SRun DS DRun
variable {Γ : St} {σ σ0 : St}
theorem pick_ok {b : Nat} {ex ex2 : Bool} {code : List UInt8} {ss : List (List UInt8)} {a s : Int} (hb : σ b = some (srcC ex code a s)) (ha : 0 ≤ a ∧ a ≤ 1152921504606846976) (hs : 0 ≤ s ∧ s < 2147483648) (h1 : 1 ≤ ss.length) (h2 : ss.length ≤ 100) :
    ACalls Tryz.prog Γ 88 [.ptr b 0, .isl ex2 1 (strsV ss)] σ fun r σ' => ∃ j a' s', j < ss.length ∧ a ≤ a' ∧ a' ≤ a + 3 ∧ 0 ≤ s' ∧ s' < 2147483648 ∧ r = .str (ss.getD j []) ∧ σ' = upd σ b (srcC ex code a' s') := by
  have d0 : decide ((ss.length : Int) = 0) = false := decide_eq_false (by omega)
  refine acalls_W c88_ok rfl ?_
  simp (disch := omega) only [c88, go_sem]
  simp (disch := omega) only [d0, strsV_len, go_sem]
  refine SRun.callQ (next_ok hb ha hs) ⟨[], rfl, rfl⟩ rfl ?_
  rintro r σ' ⟨v, a', s', w1, w2, w3, w4, w5, w6, w7, rfl, rfl⟩
  have hv := w3 (by omega)
  obtain ⟨j, rfl⟩ : ∃ j : Nat, v = j := ⟨v.toNat, by omega⟩
  simp (disch := omega) only [go_sem]
  exact W_retR c88_ok rfl ⟨j, a', s', by omega, w4, w5, w6, w7, rfl, rfl⟩
end Go.Proofs.YtjibkkhgejcjeaaGreatDoor.Lg
/- A verdict's text: plain, and as the program writes it. -/
set_option linter.unusedSimpArgs false
set_option linter.unusedVariables false
namespace Go.Proofs.YtjibkkhgejcjeaaGreatDoor.Lg
open Go Go.Lib
attribute [local irreducible] SRun DS DRun
variable {Γ : St} {σ σ0 : St}
/-- The texts f 0, f 1, .. one behind the other. -/
def catP (f : Nat → List UInt8) : Nat → List UInt8
  | 0 => []
  | i + 1 => catP f i ++ f i
theorem catP_len {f : Nat → List UInt8} {n : Nat} (h : ∀ i, i < n → (f i).length ≤ 100) : ∀ i, i ≤ n → (catP f i).length ≤ 100 * i := by
  intro i
  induction i with
  | zero => intro _; simp [catP]
  | succ i ih => intro hi; have := ih (by omega); have := h i (by omega); simp only [catP, List.length_append]; omega
def viaT (n : Net) (v : Int) : List UInt8 := if v = -3 then [45] else if v = -2 then [115, 101, 108, 102] else if v = -1 then [111, 117, 116] else n.routers.getD v.toNat []
def downT (n : Net) (v : Vd) (i : Nat) : List UInt8 := if v.down.getD i false = true then (([32] ++ n.routers.getD (n.links.getD i default).a.toNat []) ++ [45]) ++ n.routers.getD (n.links.getD i default).b.toNat [] else []
def envT (n : Net) (v : Vd) (i : Nat) : List UInt8 := (([32] ++ n.routers.getD (n.externals.getD i 0).toNat []) ++ [61]) ++ itoa (v.env.getD i 0)
def viasT (n : Net) (v : Vd) (i : Nat) : List UInt8 := (([32] ++ n.routers.getD i []) ++ [62]) ++ viaT n (v.vias.getD i 0)
def headT (v : Vd) : List UInt8 := ((([118, 105, 111, 108, 97, 116, 101, 100, 32] ++ itoa v.states) ++ [32, 112, 111, 114, 116, 32]) ++ itoa v.port) ++ [32, 100, 111, 119, 110]
def verdT (n : Net) (v : Vd) : List UInt8 := if v.holds = true then ([104, 111, 108, 100, 115, 32] ++ itoa v.states) ++ [10] else
  ((((headT v ++ catP (downT n v) n.links.length) ++ [32, 102, 114, 111, 109]) ++ catP (envT n v) n.externals.length) ++ [32, 118, 105, 97] ++ catP (viasT n v) n.routers.length) ++ [10]
/-- What a verdict's text asks of the verdict. -/
structure VdR (n : Net) (v : Vd) : Prop where
  st : 0 ≤ v.states ∧ v.states ≤ 1000000
  port : v.holds = false → 0 ≤ v.port ∧ v.port ≤ 15
  dn : v.holds = false → v.down.length = n.links.length
  en : v.holds = false → v.env.length = n.externals.length
  vi : v.holds = false → v.vias.length = n.routers.length
  env : ∀ i, i < v.env.length → 0 ≤ v.env.getD i 0 ∧ v.env.getD i 0 ≤ 2
  vias : ∀ i, i < v.vias.length → -3 ≤ v.vias.getD i 0 ∧ v.vias.getD i 0 < n.routers.length
  sm : v.down.length ≤ 4096 ∧ v.env.length ≤ 4096 ∧ v.vias.length ≤ 4096
/-- A right network: its names are short, its numbers are of routers. -/
structure NetN (n : Net) : Prop where
  r1 : 1 ≤ n.routers.length
  r4 : n.routers.length ≤ 4
  l6 : n.links.length ≤ 6
  x2 : n.externals.length ≤ 2
  names : ∀ i, (n.routers.getD i []).length ≤ 40
  ends : ∀ i, i < n.links.length → (0 ≤ (n.links.getD i default).a ∧ (n.links.getD i default).a < n.routers.length) ∧ (0 ≤ (n.links.getD i default).b ∧ (n.links.getD i default).b < n.routers.length)
  ext : ∀ i, i < n.externals.length → 0 ≤ n.externals.getD i 0 ∧ n.externals.getD i 0 < n.routers.length
theorem netN_of {n : Net} (h : netB n = true) : NetN n := by
  have hR := netR_of h
  simp only [netB, Bool.and_eq_true, decide_eq_true_eq, List.all_eq_true] at h
  obtain ⟨⟨⟨⟨⟨⟨⟨⟨⟨⟨⟨h1, h2⟩, h3⟩, h4⟩, h5⟩, h6⟩, h7⟩, h8⟩, h9⟩, h10⟩, h11⟩, h12⟩ := h
  refine ⟨h1, h2, h3, h12, fun i => ?_, fun i hi => hR.ends _ (getD_mem _ hi), fun i hi => ?_⟩
  · by_cases hi : i < n.routers.length
    · have := h6 i (List.mem_range.2 hi)
      simp only [nameAt, nameB, Bool.and_eq_true, decide_eq_true_eq] at this
      have e : n.routers.getD i [] = n.routers[i]?.getD [] := rfl
      omega
    · rw [List.getD_eq_getElem?_getD, List.getElem?_eq_none (by omega)]; simp
  · unfold risingB at h11
    have := List.all_eq_true.1 h11 i (List.mem_range.2 hi)
    simp only [riseB, routerB, inB, Bool.and_eq_true, decide_eq_true_eq] at this
    omega
theorem viaT_len {n : Net} (hn : NetN n) (v : Int) : (viaT n v).length ≤ 40 := by
  unfold viaT
  split
  · simp
  split
  · simp
  split
  · simp
  · exact hn.names _
theorem viaText_ok {n : Net} {v : Int} (hv : -3 ≤ v ∧ v < n.routers.length) : Ret Tryz.prog Γ 98 [netV n, .int .i64 v] σ (.str (viaT n v)) σ := by
  have e0 : (netC n)[0]? = some (.isl false 1 (strsV n.routers)) := rfl
  have hl6 : (netC n).length = 6 := rfl
  refine ret_of c98_ok rfl ?_
  simp (disch := omega) only [c98, netV, go_sem]
  refine SRun.boxR (net_one n) ?_
  intro b2 hb2
  have g2 := upd_same σ b2 (netC n)
  have hσ : ∀ d x, σ d = some x → upd σ b2 (netC n) d = some x := le_upd hb2
  simp (disch := omega) only [go_sem]
  generalize upd σ b2 (netC n) = s1 at *
  unfold viaT
  by_cases h3 : v = -3
  · have d3 : decide (v = -3) = true := decide_eq_true h3
    rw [if_pos h3]
    simp (disch := omega) only [d3, go_sem]
    exact W_retC c98_ok rfl (Conv.drop _ hσ) ⟨rfl, rfl⟩
  have d3 : decide (v = -3) = false := decide_eq_false h3
  rw [if_neg h3]
  by_cases h2 : v = -2
  · have d2 : decide (v = -2) = true := decide_eq_true h2
    rw [if_pos h2]
    simp (disch := omega) only [d3, d2, go_sem]
    exact W_retC c98_ok rfl (Conv.drop _ hσ) ⟨rfl, rfl⟩
  have d2 : decide (v = -2) = false := decide_eq_false h2
  rw [if_neg h2]
  by_cases h1 : v = -1
  · have d1 : decide (v = -1) = true := decide_eq_true h1
    rw [if_pos h1]
    simp (disch := omega) only [d3, d2, d1, go_sem]
    exact W_retC c98_ok rfl (Conv.drop _ hσ) ⟨rfl, rfl⟩
  have d1 : decide (v = -1) = false := decide_eq_false h1
  rw [if_neg h1]
  simp (disch := omega) only [d3, d2, d1, g2, e0, hl6, go_sem]
  exact W_retC c98_ok rfl (Conv.drop _ hσ) ⟨rfl, rfl⟩
theorem l10Via_ok {n : Net} {v : Int} (hv : -3 ≤ v ∧ v < n.routers.length) : Ret Tryz.prog Γ 99 [netV n, .int .i64 v] σ (.str (viaT n v)) σ := by
  have e0 : (netC n)[0]? = some (.isl false 1 (strsV n.routers)) := rfl
  have hl6 : (netC n).length = 6 := rfl
  refine ret_of c99_ok rfl ?_
  simp (disch := omega) only [c99, netV, go_sem]
  refine SRun.boxR (net_one n) ?_
  intro b2 hb2
  have g2 := upd_same σ b2 (netC n)
  have hσ : ∀ d x, σ d = some x → upd σ b2 (netC n) d = some x := le_upd hb2
  simp (disch := omega) only [go_sem]
  generalize upd σ b2 (netC n) = s1 at *
  unfold viaT
  by_cases h0 : v ≥ 0
  · have d0 : decide (v ≥ 0) = true := decide_eq_true h0
    rw [if_neg (by omega), if_neg (by omega), if_neg (by omega)]
    simp (disch := omega) only [d0, g2, e0, hl6, go_sem]
    exact W_retC c99_ok rfl (Conv.drop _ hσ) ⟨rfl, rfl⟩
  have d0 : decide (v ≥ 0) = false := decide_eq_false h0
  rcases (by omega : v = -3 ∨ v = -2 ∨ v = -1) with rfl | rfl | rfl
  all_goals
    simp (disch := omega) only [d0, stepW_iaddr_isl, go_sem]
    exact W_retC c99_ok rfl (Conv.drop _ hσ) ⟨rfl, rfl⟩
end Go.Proofs.YtjibkkhgejcjeaaGreatDoor.Lg
/- A verdict's text, as the program writes it. -/
set_option linter.unusedSimpArgs false
set_option linter.unusedVariables false
namespace Go.Proofs.YtjibkkhgejcjeaaGreatDoor.Lg
open Go Go.Lib
attribute [local irreducible] SRun DS DRun
variable {Γ : St} {σ σ0 : St}
theorem cat_step (p : List UInt8) (f : Nat → List UInt8) (i : Nat) : (p ++ catP f i) ++ f i = p ++ catP f (i + 1) := by rw [List.append_assoc]; rfl
set_option maxHeartbeats 1000000 in
theorem verdictText_ok (hg : NumG Γ) {n : Net} {v : Vd} (hn : NetN n) (hv : VdR n v) : Ret Tryz.prog Γ 49 [netV n, vdV v] σ (.str (verdT n v)) σ := by
  have hl6 : (netC n).length = 6 := rfl
  have ht6 : (netC n).take 6 = netC n := rfl
  have vl6 : (vdC v).length = 6 := rfl
  have vt6 : (vdC v).take 6 = vdC v := rfl
  have n0 : (netC n)[0]? = some (.isl false 1 (strsV n.routers)) := rfl
  have n1 : (netC n)[1]? = some (.isl false 3 (linksV n.links)) := rfl
  have n3 : (netC n)[3]? = some (.isl false 1 (ints n.externals)) := rfl
  have v0 : (vdC v)[0]? = some (.bool v.holds) := rfl
  have v1 : (vdC v)[1]? = some (.int .i64 v.states) := rfl
  have v2 : (vdC v)[2]? = some (.isl false 1 (bools v.down)) := rfl
  have v3 : (vdC v)[3]? = some (.isl false 1 (ints v.env)) := rfl
  have v4 : (vdC v)[4]? = some (.isl false 1 (ints v.vias)) := rfl
  have v5 : (vdC v)[5]? = some (.int .i64 v.port) := rfl
  have r4 := hn.r4
  have l6 := hn.l6
  have x2 := hn.x2
  have hst := hv.st
  have hit := fun (x : Int) (h0 : -1000000 ≤ x) (h1 : x ≤ 1000000) => itoa_len h0 h1
  refine ret_of c49_ok rfl ?_
  simp (disch := omega) only [c49, netV, vdV, go_sem]
  refine SRun.boxR (net_one n) ?_
  intro b2 hb2
  have g2 := upd_same σ b2 (netC n)
  have hσ : ∀ d x, σ d = some x → upd σ b2 (netC n) d = some x := le_upd hb2
  simp (disch := omega) only [go_sem]
  generalize upd σ b2 (netC n) = s1 at *
  refine SRun.boxR (vd_one v) ?_
  intro b3 hb3
  have g2 := le_upd (cs := vdC v) hb3 _ _ g2
  have g3 := upd_same s1 b3 (vdC v)
  have hσ : ∀ d x, σ d = some x → upd s1 b3 (vdC v) d = some x := fun d x h => le_upd hb3 _ _ (hσ d x h)
  simp (disch := omega) only [go_sem]
  generalize upd s1 b3 (vdC v) = s2 at *
  have his := hit v.states (by omega) (by omega)
  unfold verdT
  cases hh : v.holds with
  | true =>
    rw [if_pos rfl]
    simp (disch := omega) only [g3, v0, v1, vl6, hh, go_sem]
    refine SRun.callR (Itoa_ok hg (by omega) (by omega)) ⟨[], rfl, rfl⟩ rfl ?_
    simp (disch := omega) only [List.length_append, List.length_cons, List.length_nil, go_sem]
    exact W_retC c49_ok rfl (Conv.drop _ hσ) ⟨rfl, rfl⟩
  | false =>
    rw [if_neg (by simp)]
    obtain ⟨p0, p1⟩ := hv.port hh
    have hdl := hv.dn hh
    have hel := hv.en hh
    have hvl := hv.vi hh
    have hip := hit v.port (by omega) (by omega)
    simp (disch := omega) only [g3, v0, vl6, hh, go_sem]
    refine W_drawW ?_
    refine DRun.mixE rfl ?_
    simp (disch := omega) only [g3, v1, v5, vl6, go_sem]
    refine DS.callB (Itoa_ok hg (by omega) (by omega)) ⟨[], rfl, rfl⟩ rfl rfl ?_
    simp (disch := omega) only [List.length_append, List.length_cons, List.length_nil, go_sem]
    refine DS.callB (Itoa_ok hg (by omega) (by omega)) ⟨[], rfl, rfl⟩ rfl rfl ?_
    simp (disch := omega) only [true_and, List.length_append, List.length_cons, List.length_nil, go_sem]
    have hhl : (headT v).length ≤ 100 := by simp only [headT, List.length_append, List.length_cons, List.length_nil]; omega
    simp (disch := omega) only [g2, n1, hl6, linksV_len, go_sem]
    refine W_loopC (α := Nat × St) (fun q => q.1 ≤ n.links.length ∧ ∀ d x, s2 d = some x → q.2 d = some x) (fun q => [(2, .ptr b2 0), (3, .ptr b3 0), (5, .str (headT v ++ catP (downT n v) q.1)), (30, .isl false 3 (linksV n.links)), (31, .int .i64 n.links.length), (32, .int .i64 (q.1 : Nat))]) (fun q => q.2) (fun q => n.links.length - q.1) (0, s2) ⟨by simp, fun _ _ h => h⟩ (by simp (disch := omega) only [subT, Int.natCast_add, Int.cast_ofNat_Int, headT, catP, List.append_nil, List.cons_append, List.nil_append, go_sem] <;> (repeat' apply And.intro) <;> first | rfl | (congr 1; omega) | assumption) rfl ?_
    rintro ⟨i, s⟩ ⟨hi, hle⟩ ih
    dsimp only at hi hle
    have q2 := hle _ _ g2
    have q3 := hle _ _ g3
    have hdn : ∀ j, j < n.links.length → (downT n v j).length ≤ 100 := fun j hj => by
      unfold downT
      have := hn.names (n.links.getD j default).a.toNat
      have := hn.names (n.links.getD j default).b.toNat
      split
      · simp only [List.length_append, List.length_cons, List.length_nil]; omega
      · simp
    have hcl := catP_len hdn i hi
    simp (disch := omega) only [go_sem]
    first | refine iteW_dec (fun hq => ?_) (fun hq => ?_) | refine iteW_of (fun hq => ?_) (fun hq => ?_)
    · have hi' : i < n.links.length := by omega
      obtain ⟨⟨a0, a1⟩, c0, c1⟩ := hn.ends i hi'
      have hna := hn.names (n.links.getD i default).a.toNat
      have hnb := hn.names (n.links.getD i default).b.toNat
      simp (disch := omega) only [go_sem]
      have hst2 := cat_step (headT v) (downT n v) i
      have hdd : downT n v i = (if v.down.getD i false = true then (([32] ++ n.routers.getD (n.links.getD i default).a.toNat []) ++ [45]) ++ n.routers.getD (n.links.getD i default).b.toNat [] else []) := rfl
      generalize n.links.getD i default = lk at *
      obtain ⟨la, lb, lc⟩ := lk
      dsimp only at a0 a1 c0 c1 hna hnb hdd
      simp (disch := omega) only [linkC, go_sem]
      refine SRun.allocR ?_
      intro b7 hb7
      have q2 := le_upd (cs := [.int .i64 la, .int .i64 lb, .int .i64 lc]) hb7 _ _ q2
      have q3 := le_upd (cs := [.int .i64 la, .int .i64 lb, .int .i64 lc]) hb7 _ _ q3
      have q7 := upd_same s b7 [.int .i64 la, .int .i64 lb, .int .i64 lc]
      have hle : ∀ d x, s2 d = some x → upd s b7 [.int .i64 la, .int .i64 lb, .int .i64 lc] d = some x := fun d x h => le_upd hb7 _ _ (hle d x h)
      simp (disch := omega) only [upd_same, upd_upd, go_sem]
      generalize upd s b7 [.int .i64 la, .int .i64 lb, .int .i64 lc] = s5 at *
      simp (disch := omega) only [q3, v2, vl6, bools_len, go_sem]
      refine iteW_join (fun T s' => s' = s5 ∧ look T 2 = .ptr b2 0 ∧ look T 3 = .ptr b3 0 ∧ look T 5 = .str (headT v ++ catP (downT n v) (i + 1)) ∧ look T 30 = .isl false 3 (linksV n.links) ∧ look T 31 = .int .i64 n.links.length ∧ look T 32 = .int .i64 (i : Nat)) (fun k' key => ?_) ?_
      · cases hd : v.down.getD i false with
        | true =>
          rw [hd, if_pos rfl] at hdd
          rw [hdd] at hst2
          simp (disch := omega) only [go_sem]
          refine W_drawW ?_
          simp (disch := omega) only [q2, q3, q7, n0, hl6, List.length_append, List.length_cons, List.length_nil, go_sem]
          exact key _ _ ⟨rfl, rfl, rfl, by simpa [look] using hst2, rfl, rfl, rfl⟩
        | false =>
          rw [hd, if_neg (by simp)] at hdd
          rw [hdd, List.append_nil] at hst2
          simp (disch := omega) only [go_sem]
          exact key _ _ ⟨rfl, rfl, rfl, by simpa [look] using hst2, rfl, rfl, rfl⟩
      rintro T s' ⟨hs', k2, k3, k5, k30, k31, k32⟩
      obtain rfl := hs'.symm
      simp (disch := omega) only [k32, go_sem]
      exact ih (i + 1, s5) _ _ ⟨by simp only; omega, hle⟩ (by simp only; omega) (by simp (disch := omega) only [subT, Int.natCast_add, Int.cast_ofNat_Int, k2, k3, k5, k30, k31, k32, go_sem] <;> (repeat' apply And.intro) <;> first | rfl | (congr 1; omega) | assumption) rfl
    · obtain rfl : i = n.links.length := by omega
      clear ih
      simp (disch := omega) only [q2, n3, hl6, ints_len, go_sem]
      have hAl : (headT v ++ catP (downT n v) n.links.length ++ [32, 102, 114, 111, 109]).length ≤ 1000 := by simp only [List.length_append, List.length_cons, List.length_nil]; omega
      generalize headT v ++ catP (downT n v) n.links.length ++ [32, 102, 114, 111, 109] = A at *
      have hen : ∀ j, j < n.externals.length → (envT n v j).length ≤ 100 := fun j hj => by
        have := hn.names (n.externals.getD j 0).toNat
        have h2 := hv.env j (by omega)
        have := hit (v.env.getD j 0) (by omega) (by omega)
        simp only [envT, List.length_append, List.length_cons, List.length_nil]; omega
      refine W_loopC (α := Nat) (fun i => i ≤ n.externals.length) (fun i => [(2, .ptr b2 0), (3, .ptr b3 0), (5, .str (A ++ catP (envT n v) i)), (63, .isl false 1 (ints n.externals)), (64, .int .i64 n.externals.length), (65, .int .i64 (i : Nat))]) (fun _ => s) (fun i => n.externals.length - i) 0 (by omega) (by simp (disch := omega) only [subT, Int.natCast_add, Int.cast_ofNat_Int, catP, List.append_nil, go_sem] <;> (repeat' apply And.intro) <;> first | rfl | (congr 1; omega) | assumption) rfl ?_
      intro i hi ih
      have hcl := catP_len hen i hi
      simp (disch := omega) only [go_sem]
      first | refine iteW_dec (fun hq => ?_) (fun hq => ?_) | refine iteW_of (fun hq => ?_) (fun hq => ?_)
      · have hi' : i < n.externals.length := by omega
        obtain ⟨x0, x1⟩ := hn.ext i hi'
        have hna := hn.names (n.externals.getD i 0).toNat
        have h2 := hv.env i (by omega)
        have hil := hit (v.env.getD i 0) (by omega) (by omega)
        have hst2 := cat_step A (envT n v) i
        simp (disch := omega) only [go_sem]
        refine W_drawW ?_
        refine DRun.mixE rfl ?_
        simp (disch := omega) only [q2, q3, n0, hl6, v3, vl6, List.length_append, List.length_cons, List.length_nil, go_sem]
        refine DS.callB (Itoa_ok hg (by omega) (by omega)) ⟨[], rfl, rfl⟩ rfl rfl ?_
        simp (disch := omega) only [true_and, List.length_append, List.length_cons, List.length_nil, go_sem]
        exact ih (i + 1) _ _ (by omega) (by omega) (by simp (disch := omega) only [subT, Int.natCast_add, Int.cast_ofNat_Int, ← hst2, envT, List.nil_append, List.cons_append, go_sem] <;> (repeat' apply And.intro) <;> first | rfl | (congr 1; omega) | assumption) rfl
      · obtain rfl : i = n.externals.length := by omega
        clear ih
        simp (disch := omega) only [q3, v4, vl6, ints_len, go_sem]
        have hBl : (A ++ catP (envT n v) n.externals.length ++ [32, 118, 105, 97]).length ≤ 2000 := by simp only [List.length_append, List.length_cons, List.length_nil]; omega
        generalize A ++ catP (envT n v) n.externals.length ++ [32, 118, 105, 97] = B at *
        have hvn : ∀ j, j < n.routers.length → (viasT n v j).length ≤ 100 := fun j hj => by
          have := hn.names j
          have := viaT_len hn (v.vias.getD j 0)
          simp only [viasT, List.length_append, List.length_cons, List.length_nil]; omega
        refine W_loopC (α := Nat) (fun i => i ≤ n.routers.length) (fun i => [(2, .ptr b2 0), (3, .ptr b3 0), (5, .str (B ++ catP (viasT n v) i)), (90, .isl false 1 (ints v.vias)), (91, .int .i64 n.routers.length), (92, .int .i64 (i : Nat))]) (fun _ => s) (fun i => n.routers.length - i) 0 (by omega) (by simp (disch := omega) only [subT, Int.natCast_add, Int.cast_ofNat_Int, catP, List.append_nil, hvl, go_sem] <;> (repeat' apply And.intro) <;> first | rfl | (congr 1; omega) | assumption) rfl ?_
        intro i hi ih
        have hcl := catP_len hvn i hi
        simp (disch := omega) only [go_sem]
        first | refine iteW_dec (fun hq => ?_) (fun hq => ?_) | refine iteW_of (fun hq => ?_) (fun hq => ?_)
        · have hi' : i < n.routers.length := by omega
          have hna := hn.names i
          have h2 := hv.vias i (by omega)
          have hil := viaT_len hn (v.vias.getD i 0)
          have hst2 := cat_step B (viasT n v) i
          simp (disch := omega) only [go_sem]
          refine W_drawW ?_
          refine DRun.mixE rfl ?_
          simp (disch := omega) only [q2, q3, n0, hl6, ht6, vl6, List.length_append, List.length_cons, List.length_nil, go_sem]
          refine DS.callB (viaText_ok (n := n) (v := v.vias.getD i 0) h2) ⟨[], rfl, rfl⟩ rfl rfl ?_
          simp (disch := omega) only [true_and, List.length_append, List.length_cons, List.length_nil, go_sem]
          exact ih (i + 1) _ _ (by omega) (by omega) (by simp (disch := omega) only [subT, Int.natCast_add, Int.cast_ofNat_Int, ← hst2, viasT, List.nil_append, List.cons_append, go_sem] <;> (repeat' apply And.intro) <;> first | rfl | (congr 1; omega) | assumption) rfl
        · obtain rfl : i = n.routers.length := by omega
          clear ih
          simp (disch := omega) only [List.length_append, List.length_cons, List.length_nil, go_sem]
          exact W_retC c49_ok rfl (Conv.drop _ fun d x h => hle _ _ (hσ d x h)) ⟨rfl, rfl⟩
end Go.Proofs.YtjibkkhgejcjeaaGreatDoor.Lg
/- A verdict's text, as the reference writes it. -/
set_option linter.unusedSimpArgs false
set_option linter.unusedVariables false
namespace Go.Proofs.YtjibkkhgejcjeaaGreatDoor.Lg
open Go Go.Lib
attribute [local irreducible] SRun DS DRun
variable {Γ : St} {σ σ0 : St}
set_option maxHeartbeats 1000000 in
theorem l10Text_ok {n : Net} {v : Vd} (hn : NetN n) (hv : VdR n v) : Ret Tryz.prog Γ 50 [netV n, vdV v] σ (.str (verdT n v)) σ := by
  have hl6 : (netC n).length = 6 := rfl
  have ht6 : (netC n).take 6 = netC n := rfl
  have vl6 : (vdC v).length = 6 := rfl
  have vt6 : (vdC v).take 6 = vdC v := rfl
  have n0 : (netC n)[0]? = some (.isl false 1 (strsV n.routers)) := rfl
  have n1 : (netC n)[1]? = some (.isl false 3 (linksV n.links)) := rfl
  have n3 : (netC n)[3]? = some (.isl false 1 (ints n.externals)) := rfl
  have v0 : (vdC v)[0]? = some (.bool v.holds) := rfl
  have v1 : (vdC v)[1]? = some (.int .i64 v.states) := rfl
  have v2 : (vdC v)[2]? = some (.isl false 1 (bools v.down)) := rfl
  have v3 : (vdC v)[3]? = some (.isl false 1 (ints v.env)) := rfl
  have v4 : (vdC v)[4]? = some (.isl false 1 (ints v.vias)) := rfl
  have v5 : (vdC v)[5]? = some (.int .i64 v.port) := rfl
  have r4 := hn.r4
  have l6 := hn.l6
  have x2 := hn.x2
  have hst := hv.st
  have hit := fun (x : Int) (h0 : -1000000 ≤ x) (h1 : x ≤ 1000000) => itoa_len h0 h1
  refine ret_of c50_ok rfl ?_
  simp (disch := omega) only [c50, netV, vdV, go_sem]
  refine SRun.boxR (net_one n) ?_
  intro b2 hb2
  have g2 := upd_same σ b2 (netC n)
  have hσ : ∀ d x, σ d = some x → upd σ b2 (netC n) d = some x := le_upd hb2
  simp (disch := omega) only [go_sem]
  generalize upd σ b2 (netC n) = s1 at *
  refine SRun.boxR (vd_one v) ?_
  intro b3 hb3
  have g2 := le_upd (cs := vdC v) hb3 _ _ g2
  have g3 := upd_same s1 b3 (vdC v)
  have hσ : ∀ d x, σ d = some x → upd s1 b3 (vdC v) d = some x := fun d x h => le_upd hb3 _ _ (hσ d x h)
  simp (disch := omega) only [go_sem]
  generalize upd s1 b3 (vdC v) = s2 at *
  have his := hit v.states (by omega) (by omega)
  unfold verdT
  cases hh : v.holds with
  | true =>
    rw [if_pos rfl]
    simp (disch := omega) only [g3, v0, v1, vl6, hh, go_sem]
    refine SRun.callR (digits_ok (by omega) (by omega)) ⟨[], rfl, rfl⟩ rfl ?_
    simp (disch := omega) only [List.length_append, List.length_cons, List.length_nil, go_sem]
    exact W_retC c50_ok rfl (Conv.drop _ hσ) ⟨rfl, rfl⟩
  | false =>
    rw [if_neg (by simp)]
    obtain ⟨p0, p1⟩ := hv.port hh
    have hdl := hv.dn hh
    have hel := hv.en hh
    have hvl := hv.vi hh
    have hip := hit v.port (by omega) (by omega)
    simp (disch := omega) only [g3, v0, vl6, hh, go_sem]
    refine W_drawW ?_
    refine DRun.mixE rfl ?_
    simp (disch := omega) only [g3, v1, v5, vl6, go_sem]
    refine DS.callB (digits_ok (by omega) (by omega)) ⟨[], rfl, rfl⟩ rfl rfl ?_
    simp (disch := omega) only [List.length_append, List.length_cons, List.length_nil, go_sem]
    refine DS.callB (digits_ok (by omega) (by omega)) ⟨[], rfl, rfl⟩ rfl rfl ?_
    simp (disch := omega) only [true_and, List.length_append, List.length_cons, List.length_nil, go_sem]
    have hhl : (headT v).length ≤ 100 := by simp only [headT, List.length_append, List.length_cons, List.length_nil]; omega
    refine W_loopC (α := Nat) (fun i => i ≤ n.links.length) (fun i => [(2, .ptr b2 0), (3, .ptr b3 0), (5, .str (headT v ++ catP (downT n v) i)), (6, .int .i64 (i : Nat))]) (fun _ => s2) (fun i => n.links.length - i) 0 (by omega) (by simp (disch := omega) only [subT, Int.natCast_add, Int.cast_ofNat_Int, headT, catP, List.append_nil, List.cons_append, List.nil_append, go_sem] <;> (repeat' apply And.intro) <;> first | rfl | (congr 1; omega) | assumption) rfl ?_
    intro i hi ih
    have hdn : ∀ j, j < n.links.length → (downT n v j).length ≤ 100 := fun j hj => by
      unfold downT
      have := hn.names (n.links.getD j default).a.toNat
      have := hn.names (n.links.getD j default).b.toNat
      split
      · simp only [List.length_append, List.length_cons, List.length_nil]; omega
      · simp
    have hcl := catP_len hdn i hi
    simp (disch := omega) only [g3, v2, vl6, bools_len, hdl, go_sem]
    first | refine iteW_dec (fun hq => ?_) (fun hq => ?_) | refine iteW_of (fun hq => ?_) (fun hq => ?_)
    · have hi' : i < n.links.length := by omega
      obtain ⟨⟨a0, a1⟩, c0, c1⟩ := hn.ends i hi'
      have hna := hn.names (n.links.getD i default).a.toNat
      have hnb := hn.names (n.links.getD i default).b.toNat
      simp (disch := omega) only [g3, v2, vl6, bools_len, hdl, go_sem]
      have hst2 := cat_step (headT v) (downT n v) i
      have hdd : downT n v i = (if v.down.getD i false = true then (([32] ++ n.routers.getD (n.links.getD i default).a.toNat []) ++ [45]) ++ n.routers.getD (n.links.getD i default).b.toNat [] else []) := rfl
      refine iteW_join (fun T s' => s' = s2 ∧ look T 2 = .ptr b2 0 ∧ look T 3 = .ptr b3 0 ∧ look T 5 = .str (headT v ++ catP (downT n v) (i + 1)) ∧ look T 6 = .int .i64 (i : Nat)) (fun k' key => ?_) ?_
      · cases hd : v.down.getD i false with
        | true =>
          rw [hd, if_pos rfl] at hdd
          rw [hdd] at hst2
          simp (disch := omega) only [go_sem]
          refine W_drawW ?_
          simp (disch := omega) only [g2, g3, n0, n1, hl6, linksV_len, linkC, List.length_append, List.length_cons, List.length_nil, go_sem]
          exact key _ _ ⟨rfl, rfl, rfl, by simpa [look] using hst2, rfl⟩
        | false =>
          rw [hd, if_neg (by simp)] at hdd
          rw [hdd, List.append_nil] at hst2
          simp (disch := omega) only [go_sem]
          exact key _ _ ⟨rfl, rfl, rfl, by simpa [look] using hst2, rfl⟩
      rintro T s' ⟨hs', k2, k3, k5, k6⟩
      obtain rfl := hs'.symm
      simp (disch := omega) only [k6, go_sem]
      exact ih (i + 1) _ _ (by omega) (by omega) (by simp (disch := omega) only [subT, Int.natCast_add, Int.cast_ofNat_Int, k2, k3, k5, k6, go_sem] <;> (repeat' apply And.intro) <;> first | rfl | (congr 1; omega) | assumption) rfl
    · obtain rfl : i = n.links.length := by omega
      clear ih
      simp (disch := omega) only [go_sem]
      have hAl : (headT v ++ catP (downT n v) n.links.length ++ [32, 102, 114, 111, 109]).length ≤ 1000 := by simp only [List.length_append, List.length_cons, List.length_nil]; omega
      generalize headT v ++ catP (downT n v) n.links.length ++ [32, 102, 114, 111, 109] = A at *
      have hen : ∀ j, j < n.externals.length → (envT n v j).length ≤ 100 := fun j hj => by
        have := hn.names (n.externals.getD j 0).toNat
        have h2 := hv.env j (by omega)
        have := hit (v.env.getD j 0) (by omega) (by omega)
        simp only [envT, List.length_append, List.length_cons, List.length_nil]; omega
      refine W_loopC (α := Nat) (fun i => i ≤ n.externals.length) (fun i => [(2, .ptr b2 0), (3, .ptr b3 0), (5, .str (A ++ catP (envT n v) i)), (7, .int .i64 (i : Nat))]) (fun _ => s2) (fun i => n.externals.length - i) 0 (by omega) (by simp (disch := omega) only [subT, Int.natCast_add, Int.cast_ofNat_Int, catP, List.append_nil, go_sem] <;> (repeat' apply And.intro) <;> first | rfl | (congr 1; omega) | assumption) rfl ?_
      intro i hi ih
      have hcl := catP_len hen i hi
      simp (disch := omega) only [g3, v3, vl6, ints_len, hel, go_sem]
      first | refine iteW_dec (fun hq => ?_) (fun hq => ?_) | refine iteW_of (fun hq => ?_) (fun hq => ?_)
      · have hi' : i < n.externals.length := by omega
        obtain ⟨x0, x1⟩ := hn.ext i hi'
        have hna := hn.names (n.externals.getD i 0).toNat
        have h2 := hv.env i (by omega)
        have hil := hit (v.env.getD i 0) (by omega) (by omega)
        have hst2 := cat_step A (envT n v) i
        simp (disch := omega) only [go_sem]
        refine W_drawW ?_
        refine DRun.mixE rfl ?_
        simp (disch := omega) only [g2, g3, n0, n3, hl6, v3, vl6, List.length_append, List.length_cons, List.length_nil, go_sem]
        refine DS.callB (digits_ok (by omega) (by omega)) ⟨[], rfl, rfl⟩ rfl rfl ?_
        simp (disch := omega) only [true_and, List.length_append, List.length_cons, List.length_nil, go_sem]
        exact ih (i + 1) _ _ (by omega) (by omega) (by simp (disch := omega) only [subT, Int.natCast_add, Int.cast_ofNat_Int, ← hst2, envT, List.nil_append, List.cons_append, go_sem] <;> (repeat' apply And.intro) <;> first | rfl | (congr 1; omega) | assumption) rfl
      · obtain rfl : i = n.externals.length := by omega
        clear ih
        simp (disch := omega) only [go_sem]
        have hBl : (A ++ catP (envT n v) n.externals.length ++ [32, 118, 105, 97]).length ≤ 2000 := by simp only [List.length_append, List.length_cons, List.length_nil]; omega
        generalize A ++ catP (envT n v) n.externals.length ++ [32, 118, 105, 97] = B at *
        have hvn : ∀ j, j < n.routers.length → (viasT n v j).length ≤ 100 := fun j hj => by
          have := hn.names j
          have := viaT_len hn (v.vias.getD j 0)
          simp only [viasT, List.length_append, List.length_cons, List.length_nil]; omega
        refine W_loopC (α := Nat) (fun i => i ≤ n.routers.length) (fun i => [(2, .ptr b2 0), (3, .ptr b3 0), (5, .str (B ++ catP (viasT n v) i)), (8, .int .i64 (i : Nat))]) (fun _ => s2) (fun i => n.routers.length - i) 0 (by omega) (by simp (disch := omega) only [subT, Int.natCast_add, Int.cast_ofNat_Int, catP, List.append_nil, go_sem] <;> (repeat' apply And.intro) <;> first | rfl | (congr 1; omega) | assumption) rfl ?_
        intro i hi ih
        have hcl := catP_len hvn i hi
        simp (disch := omega) only [g3, v4, vl6, ints_len, hvl, go_sem]
        first | refine iteW_dec (fun hq => ?_) (fun hq => ?_) | refine iteW_of (fun hq => ?_) (fun hq => ?_)
        · have hi' : i < n.routers.length := by omega
          have hna := hn.names i
          have h2 := hv.vias i (by omega)
          have hil := viaT_len hn (v.vias.getD i 0)
          have hst2 := cat_step B (viasT n v) i
          simp (disch := omega) only [go_sem]
          refine W_drawW ?_
          refine DRun.mixE rfl ?_
          simp (disch := omega) only [g2, g3, n0, hl6, ht6, v4, vl6, List.length_append, List.length_cons, List.length_nil, go_sem]
          refine DS.callB (l10Via_ok (n := n) (v := v.vias.getD i 0) h2) ⟨[], rfl, rfl⟩ rfl rfl ?_
          simp (disch := omega) only [true_and, List.length_append, List.length_cons, List.length_nil, go_sem]
          exact ih (i + 1) _ _ (by omega) (by omega) (by simp (disch := omega) only [subT, Int.natCast_add, Int.cast_ofNat_Int, ← hst2, viasT, List.nil_append, List.cons_append, go_sem] <;> (repeat' apply And.intro) <;> first | rfl | (congr 1; omega) | assumption) rfl
        · obtain rfl : i = n.routers.length := by omega
          clear ih
          simp (disch := omega) only [List.length_append, List.length_cons, List.length_nil, go_sem]
          exact W_retC c50_ok rfl (Conv.drop _ hσ) ⟨rfl, rfl⟩
end Go.Proofs.YtjibkkhgejcjeaaGreatDoor.Lg
