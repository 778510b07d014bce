/- A network's text, as the reference writes it. -/
import Derived.Test.YtjibkkhgejcjeaaGreatDoorVj
set_option linter.unusedSimpArgs false
set_option linter.unusedVariables false
namespace Go.Proofs.YtjibkkhgejcjeaaGreatDoor.Lg
open Go Go.Lib
attribute [local irreducible] SRun DS DRun
variable {Γ : St} {σ σ0 : St}
def doS (x : Imp) : List UInt8 := if x.do_ = 1 then [32, 100, 101, 110, 121] else if x.do_ = 2 then [32, 112, 114, 101, 102] else if x.do_ = 3 then [32, 109, 97, 114, 107] else [32, 99, 108, 101, 97, 114]
set_option maxHeartbeats 2000000 in
theorem l06Text_ok {n : Net} (hB : netB n = true) : Ret Tryz.prog Γ 52 [netV n] σ (.str (netT n)) σ := by
  have hX := netX_of hB
  have r4 := hX.r4
  have l6 := hX.l6
  have o4 := hX.o4
  have x2 := hX.x2
  have i12 := hX.i12
  have f6 := hX.f6
  have hl6 : (netC n).length = 6 := rfl
  have n0 : (netC n)[0]? = some (.isl false 1 (strsV n.routers)) := rfl
  have n1 : (netC n)[1]? = some (.isl false 3 (linksV n.links)) := rfl
  have n2 : (netC n)[2]? = some (.isl false 1 (ints n.origins)) := rfl
  have n3 : (netC n)[3]? = some (.isl false 1 (ints n.externals)) := rfl
  have n4 : (netC n)[4]? = some (.isl false 5 (impsV n.imports)) := rfl
  have n5 : (netC n)[5]? = some (.isl false 4 (filsV n.filters)) := rfl
  have hns := strsV_len n.routers
  rw [netT_cat]
  refine ret_of c52_ok rfl ?_
  simp (disch := omega) only [c52, netV, go_sem]
  refine SRun.boxR (net_one n) ?_
  intro b1 hb1
  have g1 := upd_same σ b1 (netC n)
  have hσ := le_upd (cs := netC n) hb1
  simp (disch := omega) only [go_sem]
  generalize upd σ b1 (netC n) = s1 at *
  simp (disch := omega) only [g1, n0, hl6, go_sem]
  refine W_loopC (α := Nat) (fun i => i ≤ n.routers.length) (fun i => [(1, .ptr b1 0), (3, .str (catN (routW n) i)), (4, .isl false 1 (strsV n.routers)), (5, .int .i64 (i : Nat))]) (fun _ => s1) (fun i => n.routers.length - i) 0 (by omega) (by simp (disch := omega) only [subT, Int.natCast_add, Int.cast_ofNat_Int, catN, go_sem] <;> (repeat' apply And.intro) <;> first | rfl | (congr 1; omega) | assumption) rfl ?_
  intro i hi ih
  have hcl := catN_len hX.rout i hi
  simp (disch := omega) only [hns, go_sem]
  first | refine iteW_dec (fun hq => ?_) (fun hq => ?_) | refine iteW_of (fun hq => ?_) (fun hq => ?_)
  · have hi' : i < n.routers.length := by omega
    have hna : (n.routers.getD i []).length ≤ 40 := hX.names i
    simp (disch := omega) only [List.length_append, List.length_cons, List.length_nil, go_sem]
    exact ih (i + 1) _ _ (by omega) (by omega) (by simp (disch := omega) only [subT, Int.natCast_add, Int.cast_ofNat_Int, go_sem] <;> (repeat' apply And.intro) <;> first | rfl | (congr 1; omega) | assumption | (simp [catN, lnT, jnB, nmN, routW, wRouter]; done) | (simp_all [catN, lnT, jnB, nmN, routW, wRouter]; done)) rfl
  obtain rfl : i = n.routers.length := by omega
  clear ih
  simp (disch := omega) only [go_sem]
  have hAl : (catN (routW n) n.routers.length).length ≤ 1000 := by omega
  generalize catN (routW n) n.routers.length = A at *
  refine W_loopC (α := Nat × St) (fun a => a.1 ≤ n.links.length ∧ ∀ d x, s1 d = some x → a.2 d = some x) (fun a => [(1, .ptr b1 0), (3, .str (A ++ catN (fun i => linkW n (n.links.getD i default)) a.1)), (4, .isl false 1 (strsV n.routers)), (6, .int .i64 (a.1 : Nat))]) (fun a => a.2) (fun a => n.links.length - a.1) (0, s1) ⟨by simp, fun _ _ h => h⟩ (by simp (disch := omega) only [subT, Int.natCast_add, Int.cast_ofNat_Int, catN, List.append_nil, go_sem] <;> (repeat' apply And.intro) <;> first | rfl | (congr 1; omega) | assumption) rfl ?_
  clear hcl
  rintro ⟨i, s⟩ ⟨hi, hle⟩ ih
  dsimp only at hi hle
  have q1 := hle _ _ g1
  have hcl := catN_len hX.link i hi
  simp (disch := omega) only [q1, n1, hl6, linksV_len, go_sem]
  first | refine iteW_dec (fun hq => ?_) (fun hq => ?_) | refine iteW_of (fun hq => ?_) (fun hq => ?_)
  · have hi' : i < n.links.length := by omega
    obtain ⟨⟨e1, e2⟩, e3, e4⟩ := hX.ends i hi'
    obtain ⟨c1, c2⟩ := hX.cost i hi'
    have nA : (n.routers.getD (n.links.getD i default).a.toNat []).length ≤ 40 := hX.names _
    have nB : (n.routers.getD (n.links.getD i default).b.toNat []).length ≤ 40 := hX.names _
    have hil := itoa_len (n := (n.links.getD i default).cost) (by omega) (by omega)
    simp (disch := omega) only [q1, n1, hl6, linksV_len, go_sem]
    simp (disch := omega) only [linkC, go_sem]
    refine SRun.allocR ?_
    intro b8 hb8
    have q8 := upd_same s b8 [.int .i64 (n.links.getD i default).a, .int .i64 (n.links.getD i default).b, .int .i64 (n.links.getD i default).cost]
    have hle5 : ∀ d x, s1 d = some x → upd s b8 [.int .i64 (n.links.getD i default).a, .int .i64 (n.links.getD i default).b, .int .i64 (n.links.getD i default).cost] d = some x := fun d x h => le_upd hb8 _ _ (hle d x h)
    simp (disch := omega) only [upd_same, upd_upd, go_sem]
    generalize upd s b8 [.int .i64 (n.links.getD i default).a, .int .i64 (n.links.getD i default).b, .int .i64 (n.links.getD i default).cost] = s5 at *
    refine W_drawW ?_
    refine DRun.mixE rfl ?_
    simp (disch := omega) only [q8, List.length_append, List.length_cons, List.length_nil, go_sem]
    refine DS.callB (digits_ok (by omega) (by omega)) ⟨[], rfl, rfl⟩ rfl rfl ?_
    simp (disch := omega) only [true_and, List.length_append, List.length_cons, List.length_nil, go_sem]
    exact ih (i + 1, s5) _ _ ⟨by simp only; omega, hle5⟩ (by simp only; omega) (by simp (disch := omega) only [subT, Int.natCast_add, Int.cast_ofNat_Int, go_sem] <;> (repeat' apply And.intro) <;> first | rfl | (congr 1; omega) | assumption | (simp [catN, lnT, jnB, nmN, linkW, wLink, wCost]; done) | (simp_all [catN, lnT, jnB, nmN, linkW, wLink, wCost]; done)) rfl
  obtain rfl : i = n.links.length := by omega
  clear ih
  simp (disch := omega) only [go_sem]
  have hA2 : (A ++ catN (fun i => linkW n (n.links.getD i default)) n.links.length).length ≤ 2000 := by rw [List.length_append]; omega
  clear hAl hcl
  generalize A ++ catN (fun i => linkW n (n.links.getD i default)) n.links.length = A2 at *
  refine W_loopC (α := Nat) (fun i => i ≤ n.origins.length) (fun i => [(1, .ptr b1 0), (3, .str (A2 ++ catN (fun i => origW n (n.origins.getD i 0)) i)), (4, .isl false 1 (strsV n.routers)), (8, .int .i64 (i : Nat))]) (fun _ => s) (fun i => n.origins.length - i) 0 (by omega) (by simp (disch := omega) only [subT, Int.natCast_add, Int.cast_ofNat_Int, catN, List.append_nil, go_sem] <;> (repeat' apply And.intro) <;> first | rfl | (congr 1; omega) | assumption) rfl ?_
  intro i hi ih
  have hcl := catN_len hX.orig i hi
  simp (disch := omega) only [q1, n2, hl6, ints_len, go_sem]
  first | refine iteW_dec (fun hq => ?_) (fun hq => ?_) | refine iteW_of (fun hq => ?_) (fun hq => ?_)
  · have hi' : i < n.origins.length := by omega
    obtain ⟨e1, e2⟩ := hX.org i hi'
    have nA : (n.routers.getD (n.origins.getD i 0).toNat []).length ≤ 40 := hX.names _
    simp (disch := omega) only [q1, n2, hl6, ints_len, List.length_append, List.length_cons, List.length_nil, go_sem]
    exact ih (i + 1) _ _ (by omega) (by omega) (by simp (disch := omega) only [subT, Int.natCast_add, Int.cast_ofNat_Int, go_sem] <;> (repeat' apply And.intro) <;> first | rfl | (congr 1; omega) | assumption | (simp [catN, lnT, jnB, nmN, origW, wOrigin]; done) | (simp_all [catN, lnT, jnB, nmN, origW, wOrigin]; done)) rfl
  obtain rfl : i = n.origins.length := by omega
  clear ih
  simp (disch := omega) only [go_sem]
  have hA3 : (A2 ++ catN (fun i => origW n (n.origins.getD i 0)) n.origins.length).length ≤ 2644 := by rw [List.length_append]; omega
  clear hcl
  generalize A2 ++ catN (fun i => origW n (n.origins.getD i 0)) n.origins.length = A3 at *
  refine W_loopC (α := Nat) (fun i => i ≤ n.externals.length) (fun i => [(1, .ptr b1 0), (3, .str (A3 ++ catN (fun i => extW n (n.externals.getD i 0)) i)), (4, .isl false 1 (strsV n.routers)), (9, .int .i64 (i : Nat))]) (fun _ => s) (fun i => n.externals.length - i) 0 (by omega) (by simp (disch := omega) only [subT, Int.natCast_add, Int.cast_ofNat_Int, catN, List.append_nil, go_sem] <;> (repeat' apply And.intro) <;> first | rfl | (congr 1; omega) | assumption) rfl ?_
  intro i hi ih
  have hcl := catN_len hX.extl i hi
  simp (disch := omega) only [q1, n3, hl6, ints_len, go_sem]
  first | refine iteW_dec (fun hq => ?_) (fun hq => ?_) | refine iteW_of (fun hq => ?_) (fun hq => ?_)
  · have hi' : i < n.externals.length := by omega
    obtain ⟨e1, e2⟩ := hX.ext i hi'
    have nA : (n.routers.getD (n.externals.getD i 0).toNat []).length ≤ 40 := hX.names _
    simp (disch := omega) only [q1, n3, hl6, ints_len, List.length_append, List.length_cons, List.length_nil, go_sem]
    exact ih (i + 1) _ _ (by omega) (by omega) (by simp (disch := omega) only [subT, Int.natCast_add, Int.cast_ofNat_Int, go_sem] <;> (repeat' apply And.intro) <;> first | rfl | (congr 1; omega) | assumption | (simp [catN, lnT, jnB, nmN, extW, wExternal]; done) | (simp_all [catN, lnT, jnB, nmN, extW, wExternal]; done)) rfl
  obtain rfl : i = n.externals.length := by omega
  clear ih
  simp (disch := omega) only [go_sem]
  have hA4 : (A3 ++ catN (fun i => extW n (n.externals.getD i 0)) n.externals.length).length ≤ 2966 := by rw [List.length_append]; omega
  clear hcl
  generalize A3 ++ catN (fun i => extW n (n.externals.getD i 0)) n.externals.length = A4 at *
  obtain ⟨sB, hsB⟩ : ∃ sB, sB = s := ⟨_, rfl⟩
  rw [← hsB] at hle q1 ⊢
  refine W_loopC (α := Nat × St) (fun a => a.1 ≤ n.imports.length ∧ ∀ d x, s1 d = some x → a.2 d = some x) (fun a => [(1, .ptr b1 0), (3, .str (A4 ++ catN (fun i => impW n (n.imports.getD i default)) a.1)), (4, .isl false 1 (strsV n.routers)), (10, .int .i64 (a.1 : Nat))]) (fun a => a.2) (fun a => n.imports.length - a.1) (0, sB) ⟨by simp, hle⟩ (by simp (disch := omega) only [subT, Int.natCast_add, Int.cast_ofNat_Int, catN, List.append_nil, go_sem] <;> (repeat' apply And.intro) <;> first | rfl | (congr 1; omega) | assumption) rfl ?_
  clear hle q1
  rintro ⟨i, s⟩ ⟨hi, hle⟩ ih
  dsimp only at hi hle
  have q1 := hle _ _ g1
  have hcl := catN_len hX.impl i hi
  simp (disch := omega) only [q1, n4, hl6, impsV_len, go_sem]
  first | refine iteW_dec (fun hq => ?_) (fun hq => ?_) | refine iteW_of (fun hq => ?_) (fun hq => ?_)
  · have hi' : i < n.imports.length := by omega
    obtain ⟨hib, ⟨e1, e2⟩, e3, e4⟩ := hX.imp i hi'
    have nA : (n.routers.getD (n.imports.getD i default).at_.toNat []).length ≤ 40 := hX.names _
    have nB : (n.routers.getD (n.imports.getD i default).from_.toNat []).length ≤ 40 := hX.names _
    obtain ⟨wl, dl⟩ := imp_lens hib
    have hst := catN_step A4 (fun i => impW n (n.imports.getD i default)) i
    have hjn := imp_jn n (n.imports.getD i default)
    have hib2 := hib
    simp only [impB, inB, Bool.and_eq_true, decide_eq_true_eq] at hib2
    obtain ⟨⟨hwh, hdh⟩, hnh⟩ := hib2
    have hnn : 0 ≤ (n.imports.getD i default).n ∧ (n.imports.getD i default).n ≤ 1000 := by split at hnh <;> omega
    have hil := itoa_len (n := (n.imports.getD i default).n) (by omega) (by omega)
    have hwt : ([V.str [], V.str [32, 105, 102, 32, 109, 97, 114, 107], V.str [32, 105, 102, 32, 112, 108, 97, 105, 110]] : List V)[(n.imports.getD i default).when_.toNat]? = some (.str (whenT (n.imports.getD i default))) := by
      generalize n.imports.getD i default = x at *
      unfold whenT
      rcases (by omega : x.when_ = 0 ∨ x.when_ = 1 ∨ x.when_ = 2) with h | h | h <;> rw [h] <;> rfl
    have hdt : ([V.str [], V.str [32, 100, 101, 110, 121], V.str [32, 112, 114, 101, 102], V.str [32, 109, 97, 114, 107], V.str [32, 99, 108, 101, 97, 114]] : List V)[(n.imports.getD i default).do_.toNat]? = some (.str (doS (n.imports.getD i default))) := by
      generalize n.imports.getD i default = x at *
      unfold doS
      rcases (by omega : x.do_ = 1 ∨ x.do_ = 2 ∨ x.do_ = 3 ∨ x.do_ = 4) with h | h | h | h <;> rw [h] <;> rfl
    have hs1 : ∀ σ K, stepK (.iaddr 1 (.c (.isl true 1 [V.str [], V.str [32, 105, 102, 32, 109, 97, 114, 107], V.str [32, 105, 102, 32, 112, 108, 97, 105, 110]])) (.c (.int .i64 (n.imports.getD i default).when_))) σ K = K (.iptr [.str (whenT (n.imports.getD i default))]) σ := fun σ K => by
      rw [stepK_iaddr_isl, if_pos hwh.1, hwt]
      show (if 1 = 1 then _ else _) = _
      rw [if_pos rfl]; rfl
    have hs2 : ∀ σ K, stepK (.iaddr 1 (.c (.isl true 1 [V.str [], V.str [32, 100, 101, 110, 121], V.str [32, 112, 114, 101, 102], V.str [32, 109, 97, 114, 107], V.str [32, 99, 108, 101, 97, 114]])) (.c (.int .i64 (n.imports.getD i default).do_))) σ K = K (.iptr [.str (doS (n.imports.getD i default))]) σ := fun σ K => by
      have h0 : 0 ≤ (n.imports.getD i default).do_ := by omega
      rw [stepK_iaddr_isl, if_pos h0, hdt]
      show (if 1 = 1 then _ else _) = _
      rw [if_pos rfl]; rfl
    have hds : (doS (n.imports.getD i default)).length ≤ 6 := by unfold doS; split; simp; split; simp; split <;> simp
    simp (disch := omega) only [q1, n4, hl6, impsV_len, go_sem]
    simp (disch := omega) only [impC, go_sem]
    refine SRun.allocR ?_
    intro b8 hb8
    have q8 := upd_same s b8 [.int .i64 (n.imports.getD i default).at_, .int .i64 (n.imports.getD i default).from_, .int .i64 (n.imports.getD i default).when_, .int .i64 (n.imports.getD i default).do_, .int .i64 (n.imports.getD i default).n]
    have hle5 : ∀ d x, s1 d = some x → upd s b8 [.int .i64 (n.imports.getD i default).at_, .int .i64 (n.imports.getD i default).from_, .int .i64 (n.imports.getD i default).when_, .int .i64 (n.imports.getD i default).do_, .int .i64 (n.imports.getD i default).n] d = some x := fun d x h => le_upd hb8 _ _ (hle d x h)
    simp (disch := omega) only [upd_same, upd_upd, go_sem]
    generalize upd s b8 [.int .i64 (n.imports.getD i default).at_, .int .i64 (n.imports.getD i default).from_, .int .i64 (n.imports.getD i default).when_, .int .i64 (n.imports.getD i default).do_, .int .i64 (n.imports.getD i default).n] = s5 at *
    refine W_drawW ?_
    simp (maxSteps := 1000000) (disch := omega) only [q8, hs1, hs2, List.length_cons, List.length_nil, List.length_append, go_sem]
    refine iteW_join (fun T sx => sx = s5 ∧ look T 1 = .ptr b1 0 ∧ look T 4 = .isl false 1 (strsV n.routers) ∧ look T 10 = .int .i64 (i : Nat) ∧ ∃ tx, look T 3 = .str tx ∧ tx.length ≤ 9000 ∧ tx ++ [10] = A4 ++ catN (fun i => impW n (n.imports.getD i default)) (i + 1)) (fun k' key => ?_) ?_
    · by_cases hd2 : (n.imports.getD i default).do_ = 2
      · have dd : decide ((n.imports.getD i default).do_ = 2) = true := decide_eq_true hd2
        simp (disch := omega) only [dd, q8, go_sem]
        refine SRun.callR (digits_ok (by omega) (by omega)) ⟨[], rfl, rfl⟩ rfl ?_
        simp (maxSteps := 1000000) (disch := omega) only [List.length_cons, List.length_nil, List.length_append, go_sem]
        refine key _ _ ⟨rfl, rfl, rfl, rfl, _, rfl, ?_, ?_⟩
        · simp only [List.length_cons, List.length_nil, List.length_append]; omega
        · rw [← hst, lnT, ← hjn]
          clear hwt hdt hs1 hs2 hst hjn key ih q8 hle5 dd
          generalize catN (fun i => impW n (n.imports.getD i default)) i = cc
          generalize n.imports.getD i default = x at hd2 ⊢
          simp [jnB, nmN, doT, doS, hd2, wImport, wFrom]
      · have dd : decide ((n.imports.getD i default).do_ = 2) = false := decide_eq_false hd2
        simp (disch := omega) only [dd, go_sem]
        refine key _ _ ⟨rfl, rfl, rfl, rfl, _, rfl, ?_, ?_⟩
        · simp only [List.length_cons, List.length_nil, List.length_append]; omega
        · rw [← hst, lnT, ← hjn]
          clear hwt hdt hs1 hs2 hst hjn key ih q8 hle5 dd
          generalize catN (fun i => impW n (n.imports.getD i default)) i = cc
          generalize n.imports.getD i default = x at hd2 ⊢
          simp [jnB, nmN, doT, doS, hd2, wImport, wFrom]
    clear hcl hs1 hs2 hwt hdt hds hst hjn
    rintro T sx ⟨hsx, k1, k4, k10, tx, k3, htl, htx⟩
    obtain rfl := hsx.symm
    simp (disch := omega) only [k3, k10, List.length_cons, List.length_nil, go_sem]
    rw [htx]
    exact ih (i + 1, s5) _ _ ⟨by simp only; omega, hle5⟩ (by simp only; omega) (by simp (disch := omega) only [subT, Int.natCast_add, Int.cast_ofNat_Int, k1, k4, k10, go_sem] <;> (repeat' apply And.intro) <;> first | rfl | (congr 1; omega) | assumption) rfl
  obtain rfl : i = n.imports.length := by omega
  clear ih
  simp (disch := omega) only [go_sem]
  have hA5 : (A4 ++ catN (fun i => impW n (n.imports.getD i default)) n.imports.length).length ≤ 6000 := by rw [List.length_append]; omega
  clear hcl
  generalize A4 ++ catN (fun i => impW n (n.imports.getD i default)) n.imports.length = A5 at *
  obtain ⟨sC, hsC⟩ : ∃ sC, sC = s := ⟨_, rfl⟩
  rw [← hsC] at hle q1 ⊢
  refine W_loopC (α := Nat × St) (fun a => a.1 ≤ n.filters.length ∧ ∀ d x, s1 d = some x → a.2 d = some x) (fun a => [(1, .ptr b1 0), (3, .str (A5 ++ catN (fun i => filW n (n.filters.getD i default)) a.1)), (4, .isl false 1 (strsV n.routers)), (12, .int .i64 (a.1 : Nat))]) (fun a => a.2) (fun a => n.filters.length - a.1) (0, sC) ⟨by simp, hle⟩ (by simp (disch := omega) only [subT, Int.natCast_add, Int.cast_ofNat_Int, catN, List.append_nil, go_sem] <;> (repeat' apply And.intro) <;> first | rfl | (congr 1; omega) | assumption) rfl ?_
  clear hle q1
  rintro ⟨i, s⟩ ⟨hi, hle⟩ ih
  dsimp only at hi hle
  have q1 := hle _ _ g1
  have hcl := catN_len hX.fill i hi
  simp (disch := omega) only [q1, n5, hl6, filsV_len, go_sem]
  first | refine iteW_dec (fun hq => ?_) (fun hq => ?_) | refine iteW_of (fun hq => ?_) (fun hq => ?_)
  · have hi' : i < n.filters.length := by omega
    obtain ⟨hf, ⟨e1, e2⟩, e3, e4⟩ := hX.fil i hi'
    have nA : (n.routers.getD (n.filters.getD i default).at_.toNat []).length ≤ 40 := hX.names _
    have nB : (n.routers.getD (n.filters.getD i default).to.toNat []).length ≤ 40 := hX.names _
    have hil := itoa_len (n := (n.filters.getD i default).low) (by omega) (by omega)
    have hih := itoa_len (n := (n.filters.getD i default).high) (by omega) (by omega)
    have hst := catN_step A5 (fun i => filW n (n.filters.getD i default)) i
    simp (disch := omega) only [q1, n5, hl6, filsV_len, go_sem]
    simp (disch := omega) only [filC, go_sem]
    refine SRun.allocR ?_
    intro b8 hb8
    have q8 := upd_same s b8 [.int .i64 (n.filters.getD i default).at_, .int .i64 (n.filters.getD i default).to, .int .i64 (n.filters.getD i default).low, .int .i64 (n.filters.getD i default).high]
    have hle5 : ∀ d x, s1 d = some x → upd s b8 [.int .i64 (n.filters.getD i default).at_, .int .i64 (n.filters.getD i default).to, .int .i64 (n.filters.getD i default).low, .int .i64 (n.filters.getD i default).high] d = some x := fun d x h => le_upd hb8 _ _ (hle d x h)
    simp (disch := omega) only [upd_same, upd_upd, go_sem]
    generalize upd s b8 [.int .i64 (n.filters.getD i default).at_, .int .i64 (n.filters.getD i default).to, .int .i64 (n.filters.getD i default).low, .int .i64 (n.filters.getD i default).high] = s5 at *
    refine W_drawW ?_
    refine DRun.mixE rfl ?_
    simp (disch := omega) only [q8, List.length_cons, List.length_nil, List.length_append, go_sem]
    refine DS.callB (digits_ok (by omega) (by omega)) ⟨[], rfl, rfl⟩ rfl rfl ?_
    simp (disch := omega) only [true_and, List.length_cons, List.length_nil, List.length_append, go_sem]
    refine DS.callB (digits_ok (by omega) (by omega)) ⟨[], rfl, rfl⟩ rfl rfl ?_
    simp (disch := omega) only [true_and, List.length_cons, List.length_nil, List.length_append, go_sem]
    exact ih (i + 1, s5) _ _ ⟨by simp only; omega, hle5⟩ (by simp only; omega) (by simp (disch := omega) only [subT, Int.natCast_add, Int.cast_ofNat_Int, go_sem] <;> (repeat' apply And.intro) <;> first | rfl | (congr 1; omega) | assumption | (simp [catN, lnT, jnB, nmN, filW, wFilter, wTo, wPort]; done) | (simp_all [catN, lnT, jnB, nmN, filW, wFilter, wTo, wPort]; done)) rfl
  obtain rfl : i = n.filters.length := by omega
  clear ih
  simp (disch := omega) only [go_sem]
  exact W_retC c52_ok rfl (Conv.drop _ fun d x h => hle d x (hσ d x h)) ⟨rfl, rfl⟩
end Go.Proofs.YtjibkkhgejcjeaaGreatDoor.Lg
/- The law FnNets over its code. -/
set_option linter.unusedSimpArgs false
set_option linter.unusedVariables false
namespace Go.Proofs.YtjibkkhgejcjeaaGreatDoor.Lg
open Go Go.Lib
attribute [local irreducible] SRun DS DRun
variable {Γ : St} {σ σ0 : St}
theorem NetText_ok (hg : NumG Γ) (hw1 : Γ 1 = some (strsV whenP)) {n : Net} (hB : netB n = true) (hN : NetLen n) : Ret Tryz.prog Γ 18 [netV n] σ (.tup [.str (netT n), .int .i64 0]) σ := by
  have hl6 : (netC n).length = 6 := rfl
  have ht6 : (netC n).take 6 = netC n := rfl
  refine ret_of c18_ok rfl ?_
  simp (disch := omega) only [c18, netV, go_sem]
  refine SRun.boxR (net_one n) ?_
  intro b2 hb2
  have g2 := upd_same σ b2 (netC n)
  have hσ := le_upd (cs := netC n) hb2
  simp (disch := omega) only [go_sem]
  generalize upd σ b2 (netC n) = s1 at *
  simp (disch := omega) only [g2, ht6, hl6, go_sem]
  refine SRun.callR (isNet_ok hN) ⟨[], rfl, rfl⟩ rfl ?_
  rw [hB]
  simp (disch := omega) only [g2, ht6, hl6, go_sem]
  refine SRun.callR (netText_ok hg hw1 hB) ⟨[], rfl, rfl⟩ rfl ?_
  simp (disch := omega) only [go_sem]
  exact W_retC c18_ok rfl (Conv.drop _ hσ) ⟨rfl, rfl⟩
theorem NetTexts_ok {n : Net} (hB : netB n = true) (hN : NetLen n) : Ret Tryz.prog Γ 19 [netV n] σ (.tup [.str (netT n), .int .i64 0]) σ := by
  have hl6 : (netC n).length = 6 := rfl
  have ht6 : (netC n).take 6 = netC n := rfl
  refine ret_of c19_ok rfl ?_
  simp (disch := omega) only [c19, netV, go_sem]
  refine SRun.boxR (net_one n) ?_
  intro b2 hb2
  have g2 := upd_same σ b2 (netC n)
  have hσ := le_upd (cs := netC n) hb2
  simp (disch := omega) only [go_sem]
  generalize upd σ b2 (netC n) = s1 at *
  simp (disch := omega) only [g2, ht6, hl6, go_sem]
  refine SRun.callR (NetOK_ok hN) ⟨[], rfl, rfl⟩ rfl ?_
  rw [hB]
  simp (disch := omega) only [g2, ht6, hl6, go_sem]
  refine SRun.callR (l06Text_ok hB) ⟨[], rfl, rfl⟩ rfl ?_
  simp (disch := omega) only [go_sem]
  exact W_retC c19_ok rfl (Conv.drop _ hσ) ⟨rfl, rfl⟩
theorem NetOKi_ok {n : Net} (hN : NetLen n) : Ret Tryz.prog Γ 21 [netV n] σ (.bool (netB n)) σ := by
  have hl6 : (netC n).length = 6 := rfl
  have ht6 : (netC n).take 6 = netC n := rfl
  refine ret_of c21_ok rfl ?_
  simp (disch := omega) only [c21, netV, go_sem]
  refine SRun.boxR (net_one n) ?_
  intro b2 hb2
  have g2 := upd_same σ b2 (netC n)
  have hσ := le_upd (cs := netC n) hb2
  simp (disch := omega) only [go_sem]
  generalize upd σ b2 (netC n) = s1 at *
  simp (disch := omega) only [g2, ht6, hl6, go_sem]
  refine SRun.callR (isNet_ok hN) ⟨[], rfl, rfl⟩ rfl ?_
  simp (disch := omega) only [go_sem]
  exact W_retC c21_ok rfl (Conv.drop _ hσ) ⟨rfl, rfl⟩
def remarkN : List UInt8 := [35, 32, 97, 32, 114, 101, 109, 97, 114, 107]
/-- The text with a remark is read as the network. -/
theorem read_chain {n : Net} (hB : netB n = true) : Chain ((cutP 10 (remarkN ++ 10 :: netT n)).map netW) emptyN n := by
  have hc := net_chain hB
  have hm := chain_mem hc
  rw [cutP_app (by decide), netT, cut_netT hm]
  have e : ((linesN n).map jnB).map netW = linesN n := by
    rw [List.map_map]
    conv => rhs; rw [← List.map_id (linesN n)]
    apply List.map_congr_left
    intro ws hw
    obtain ⟨a, b, h⟩ := hm ws hw
    exact adds_netW h
  rw [List.map_cons, List.map_append, e]
  have h1 : netW remarkN = [] := by decide
  have h2 : ([[]] : List (List UInt8)).map netW = [[]] := rfl
  rw [h1, h2]
  exact .cons (.skip _) (hc.app (.cons (.skip _) (.nil _)))
theorem netT_len {n : Net} (hB : netB n = true) : (netT n).length ≤ 161 * 34 := by
  have hX := netX_of hB
  have h := lines_len (chain_mem (net_chain hB))
  have hl : (linesN n).length ≤ 34 := by
    have := hX.r4; have := hX.l6; have := hX.o4; have := hX.x2; have := hX.i12; have := hX.f6
    simp only [linesN, List.length_append, List.length_map, List.length_range]; omega
  unfold netT; omega
set_option maxHeartbeats 1000000 in
theorem fnNets_ok (hg : NumG Γ) (hw1 : Γ 1 = some (strsV whenP)) {ex : Bool} {code : List UInt8} (hl1 : code.length ≤ 140737488355328) : Ret Tryz.prog Γ 5 [codeV ex code] σ (.bool true) σ := by
  refine ret_of c5_ok rfl ?_
  simp (disch := omega) only [c5, codeV, go_sem]
  first | refine iteW_dec (fun h => ?_) (fun h => ?_) | refine iteW_of (fun h => ?_) (fun h => ?_)
  · simp (disch := omega) only [go_sem]
    refine W_retR c5_ok rfl ⟨?_, rfl⟩
    simp only [look, ev, V.bool.injEq, V.int.injEq, V.str.injEq, V.tup.injEq, V.agg.injEq, V.isl.injEq, List.cons.injEq, true_and, and_true, Nat.reduceEqDiff, Nat.reduceAdd, Nat.reduceSub, Nat.reduceMul, Nat.reducePow, Nat.reduceDiv, Nat.reduceMod, Int.reduceToNat, Nat.reduceLeDiff, Nat.reduceLT, Int.reduceEq, Int.reduceLT, Int.reduceLE, Int.reduceGT, Int.reduceGE, Int.reduceNeg, Int.reduceSub, Int.reduceAdd, Int.reduceMul, Int.reducePow, ne_eq, reduceCtorEq, ↓reduceIte]
  simp (disch := omega) only [go_sem]
  refine SRun.callQ (NetOf_ok (ex := ex) (code := code) hl1) ⟨[], rfl, rfl⟩ rfl ?_
  rintro r s ⟨n, hB, hN, hos, rfl, hs⟩
  obtain rfl := hs.symm
  have hX := netX_of hB
  have hR := netR_of hB
  have r4 := hX.r4
  have r1 := hR.r1
  have l6 := hX.l6
  have htl := netT_len hB
  have hlen : (netC n).take 6 = netC n := rfl
  have hlen2 : (netC n).length = 6 := rfl
  have hone : (∀ c, c ∈ netC n → c.one = true) = True := eq_true (net_one n)
  have hsets : sets [V.isl true 0 [], V.isl true 0 [], V.isl true 0 [], V.isl true 0 [], V.isl true 0 [], V.isl true 0 []] 0 (netC n) = netC n := rfl
  have hnc : netV n = .agg (netC n) := rfl
  have hRN := fun Γ σ (hg : NumG Γ) (hw1 : Γ 1 = some (strsV whenP)) => ReadNet_ok (Γ := Γ) (σ := σ) hg hw1 (t := remarkN ++ 10 :: netT n) (n := n) (by simp only [List.length_append, List.length_cons, remarkN, List.length_nil]; omega) (read_chain hB) ⟨r1, by omega⟩ (by omega)
  have hNT := fun Γ σ (hg : NumG Γ) (hw1 : Γ 1 = some (strsV whenP)) => NetText_ok (Γ := Γ) (σ := σ) hg hw1 hB hN
  have hNS := fun Γ σ => NetTexts_ok (Γ := Γ) (σ := σ) hB hN
  rw [hnc] at *
  simp (disch := omega) only [go_sem]
  refine SRun.allocR ?_
  intro b3 hb3
  simp (disch := omega) only [hlen2, hone, hsets, go_sem]
  have g3 := upd_same σ b3 (netC n)
  have hσ : ∀ d x, σ d = some x → upd σ b3 (netC n) d = some x := le_upd hb3
  generalize upd σ b3 (netC n) = s1 at *
  simp (disch := omega) only [g3, hlen, hlen2, go_sem]
  refine SRun.callR (hNT _ _ hg hw1) ⟨[], rfl, rfl⟩ rfl ?_
  simp (disch := omega) only [g3, hlen, hlen2, go_sem]
  refine SRun.callR (hNS _ _) ⟨[], rfl, rfl⟩ rfl ?_
  simp (disch := omega) only [List.length_cons, List.length_nil, go_sem]
  refine SRun.callR (hRN _ _ hg hw1) ⟨[], rfl, rfl⟩ rfl ?_
  simp (disch := omega) only [go_sem]
  refine SRun.allocR ?_
  intro b8 hb8
  simp (disch := omega) only [hlen2, hone, hsets, go_sem]
  have k3 := le_upd (cs := netC n) hb8 _ _ g3
  have k8 := upd_same s1 b8 (netC n)
  have hσ2 : ∀ d x, σ d = some x → upd s1 b8 (netC n) d = some x := fun d x h => le_upd hb8 _ _ (hσ d x h)
  generalize upd s1 b8 (netC n) = s2 at *
  simp (disch := omega) only [k8, hlen, hlen2, go_sem]
  refine SRun.callR (hNT _ _ hg hw1) ⟨[], rfl, rfl⟩ rfl ?_
  have heq : ∀ s : List UInt8, (s == s) = true := fun s => by simp
  simp (disch := omega) only [k3, k8, hlen, hlen2, heq, go_sem]
  refine SRun.callR (NetOKi_ok hN) ⟨[], rfl, rfl⟩ rfl ?_
  rw [hB]
  simp (disch := omega) only [go_sem]
  exact W_retC c5_ok rfl (Conv.drop _ hσ2) ⟨rfl, rfl⟩
end Go.Proofs.YtjibkkhgejcjeaaGreatDoor.Lg
