/- What is told of the functions that are reached, as far as it is asked here. -/
import Derived.Test.YtabelcohkpmpnaaKz5
import Derived.KernelRfl
set_option linter.unusedSimpArgs false
set_option linter.unusedVariables false
namespace Go.Proofs.Ytabelcohkpmpnaa.Lg
open Go
section
attribute [local irreducible] SRun DS DRun
variable {Γ : St} {σ σ0 : St}
set_option maxHeartbeats 1000000 in
theorem forward_ownL {n : Net} {ex : Bool} {rs : List Rt} {from_ port : Int} (hf : n.filters.length ≤ 1000000000000) (hl : rs.length ≤ 1000000) (hv : ViasIn rs) (hi : ∀ v : Int, -3 ≤ (rtAt rs v).via) (h0 : 0 ≤ from_ ∧ from_ < rs.length) (hr : rs.length = n.routers.length) :
    ACalls Try.prog Γ 57 [netV n, .isl ex 4 (rtsV rs), .int .i64 from_, .int .i64 port] σ fun r s => ∃ q, r = .agg [.int .i64 (walkP n rs from_ port).1, q] ∧ OwnL σ 1 (ints (walkP n rs from_ port).2) q s := by
  have hlen : (netC n).take 6 = netC n := rfl
  have hlen2 : (netC n).length = 6 := rfl
  have e0 : (netC n)[0]? = some (.isl false 1 (strsV n.routers)) := rfl
  refine acalls_W c57_ok rfl ?_
  simp (disch := omega) only [c57, netV, go_sem]
  refine SRun.boxR (net_one n) ?_
  intro b4 hb4
  simp (disch := omega) only [go_sem]
  refine SRun.allocS ?_
  intro b8 hb8
  have n8 := upd_none.1 hb8
  refine SRun.opsNil (SRun.seq (SRun.ops (SRun.mvS ?_)))
  refine SRun.bslR (by exact ⟨by omega, rfl, fun c hc => by rw [List.mem_singleton.1 hc]; rfl, trivial⟩) rfl (fun c hc => by rw [List.mem_singleton.1 hc]; rfl) ?_
  intro bp hbp
  have np := upd_none.1 hbp
  have np' := upd_none.1 np.2
  have hflp : flat (rowV (ev Γ (putT (putT [(4, V.ptr b4 0), (0, netV n), (1, .isl ex 4 (rtsV rs)), (2, .int .i64 from_), (3, .int .i64 port)] (some 8) (.ptr b8 0)) (some 12) (.int .i64 from_))) (List.replicate 1 (V.int .i64 0)) [(0, .t 12)]) = ints [from_] := rfl
  simp (disch := omega) only [go_sem]
  refine SRun.allocR ?_
  intro b9 hb9
  have n9p := upd_none.1 hb9
  have n9 := upd_none.1 n9p.2
  have n9' := upd_none.1 n9.2
  simp (disch := omega) only [go_sem]
  have n48 : b4 ≠ b8 := n8.1.symm
  have n49 : b4 ≠ b9 := n9'.1.symm
  have n89 : b8 ≠ b9 := n9.1.symm
  have n98 : b9 ≠ b8 := n9.1
  have g4 : ∀ y z, upd (upd (upd σ b4 (netC n)) b8 y) b9 z b4 = some (netC n) := fun y z => by rw [upd_ne _ _ n49, upd_ne _ _ n48, upd_same]
  have g8 : ∀ y z, upd (upd (upd σ b4 (netC n)) b8 y) b9 z b8 = some y := fun y z => by rw [upd_ne _ _ n89, upd_same]
  have hσ : ∀ y z d x, σ d = some x → upd (upd (upd σ b4 (netC n)) b8 y) b9 z d = some x := fun y z d x h => by
    have e4 : d ≠ b4 := fun e => by subst e; rw [hb4] at h; cases h
    have e8 : d ≠ b8 := fun e => by subst e; rw [n8.2] at h; cases h
    have e9 : d ≠ b9 := fun e => by subst e; rw [n9'.2] at h; cases h
    rw [upd_ne _ _ e9, upd_ne _ _ e8, upd_ne _ _ e4]; exact h
  have hwp : walkP n rs from_ port = walkGo n rs port rs.length from_ [from_] := rfl
  have hO : ∀ z : List V, OwnL (upd (upd (upd σ b4 (netC n)) b8 [.int .i64 0, .isl true 0 []]) b9 z) 1 (ints [from_]) (.msl bp 1 0 1 1) (upd (upd (upd (upd σ b4 (netC n)) b8 [.int .i64 0, .isl true 0 []]) bp (ints [from_])) b9 z) := fun z =>
    OwnL.ext ⟨.inr ⟨bp, 1, hbp, rfl, rfl, rfl, Nat.le_refl _⟩, ints_ok _⟩ hb9
  refine W_loopC (α := Nat × Int × List Int × V × St) (fun p => p.1 < rs.length ∧ (0 ≤ p.2.1 ∧ p.2.1 < rs.length) ∧ p.2.2.1.length = p.1 + 1 ∧ walkP n rs from_ port = walkGo n rs port (rs.length - p.1) p.2.1 p.2.2.1 ∧ OwnL (upd (upd (upd σ b4 (netC n)) b8 [.int .i64 0, .isl true 0 []]) b9 [.int .i64 0, p.2.2.2.1]) 1 (ints p.2.2.1) p.2.2.2.1 p.2.2.2.2) (fun p => [(1, .isl ex 4 (rtsV rs)), (3, .int .i64 port), (4, .ptr b4 0), (8, .ptr b8 0), (9, .ptr b9 0), (10, .int .i64 p.2.1)]) (fun p => p.2.2.2.2) (fun p => rs.length - p.1) (0, from_, [from_], .msl bp 1 0 1 1, _) ⟨by simp only; omega, h0, by simp, hwp, hO _⟩ (by simp (disch := omega) only [subT, Int.natCast_add, Int.cast_ofNat_Int, go_sem] <;> (repeat' apply And.intro) <;> first | rfl | (congr 1; omega) | assumption) rfl ?_
  rintro ⟨i, at_, path, q, s⟩ ⟨hi1, hat, hpl, he, ho⟩ ih
  dsimp only at hi1 hat hpl he ho
  have g9' := ho.get (upd_same _ b9 _)
  have g8' := ho.get (g8 _ _)
  have g4' := ho.get (g4 _ _)
  have hq1 := ho.one
  have hqc := ho.cells
  have fin : ∀ (o : Int) (s2 : St), s2 = upd (upd s b9 [.int .i64 o, q]) b8 [.int .i64 o, q] → ∃ s3, (∀ d x, s3 d = some x → s2 d = some x) ∧ OwnL σ 1 (ints path) q s3 := by
    rintro o _ rfl
    have h1 := ho.upd (c' := [.int .i64 o, q]) (upd_same _ b9 _)
    have h2 := h1.upd (b := b8) (c' := [.int .i64 o, q]) (by rw [upd_upd]; exact g8 _ _)
    refine ownL_less h2 fun d x h => ?_
    have e8 : d ≠ b8 := fun e => by subst e; rw [n8.2] at h; cases h
    rw [upd_ne _ _ e8, upd_upd]; exact hσ _ _ _ _ h
  simp (disch := omega) only [go_sem]
  · obtain ⟨m, hm⟩ : ∃ m, rs.length - i = m + 1 := ⟨rs.length - i - 1, by omega⟩
    rw [hm, walkGo] at he
    have hrt : rs.getD at_.toNat default = rtAt rs at_ := rfl
    have hrt0 : ∀ r : Rt, (rtC r)[0]? = some (.int .i64 r.via) := fun _ => rfl
    have hvi := hv at_
    have hii := hi at_
    simp (disch := omega) only [hrt, hrt0, go_sem]
    generalize (rtAt rs at_).via = v at *
    first | refine iteW_dec (fun h2 => ?_) (fun h2 => ?_) | refine iteW_of (fun h2 => ?_) (fun h2 => ?_)
    · rw [if_pos h2] at he
      rw [he]
      simp (disch := omega) only [g9', g8', n89, n98, hq1, hqc, go_sem]
      obtain ⟨s3, f1, f2⟩ := fin 1 _ rfl
      exact W_retC c57_ok (r := .agg [.int .i64 1, q]) (resV_cellA rfl (upd_same _ _ _) rfl) (Conv.drop _ f1) ⟨q, rfl, f2⟩
    rw [if_neg h2] at he
    simp (disch := omega) only [go_sem]
    first | refine iteW_dec (fun h3 => ?_) (fun h3 => ?_) | refine iteW_of (fun h3 => ?_) (fun h3 => ?_)
    · rw [if_pos h3] at he
      rw [he]
      simp (disch := omega) only [g9', g8', n89, n98, hq1, hqc, go_sem]
      obtain ⟨s3, f1, f2⟩ := fin 2 _ rfl
      exact W_retC c57_ok (r := .agg [.int .i64 2, q]) (resV_cellA rfl (upd_same _ _ _) rfl) (Conv.drop _ f1) ⟨q, rfl, f2⟩
    rw [if_neg h3] at he
    simp (disch := omega) only [go_sem]
    first | refine iteW_dec (fun h4 => ?_) (fun h4 => ?_) | refine iteW_of (fun h4 => ?_) (fun h4 => ?_)
    · rw [if_pos h4] at he
      rw [he]
      simp (disch := omega) only [g9', g8', n89, n98, hq1, hqc, go_sem]
      obtain ⟨s3, f1, f2⟩ := fin 3 _ rfl
      exact W_retC c57_ok (r := .agg [.int .i64 3, q]) (resV_cellA rfl (upd_same _ _ _) rfl) (Conv.drop _ f1) ⟨q, rfl, f2⟩
    rw [if_neg h4] at he
    simp (disch := omega) only [g4', hlen, hlen2, go_sem]
    refine SRun.callR (isFiltered_ok (n := n) (at_ := at_) (to := v) (p := port) hf) ⟨[], rfl, rfl⟩ rfl ?_
    cases h5 : n.filters.any (filtB at_ v port) with
    | true =>
      rw [h5, if_pos rfl] at he
      rw [he]
      simp (disch := omega) only [g9', g8', n89, n98, hq1, hqc, go_sem]
      obtain ⟨s3, f1, f2⟩ := fin 4 _ rfl
      exact W_retC c57_ok (r := .agg [.int .i64 4, q]) (resV_cellA rfl (upd_same _ _ _) rfl) (Conv.drop _ f1) ⟨q, rfl, f2⟩
    | false =>
      rw [h5, if_neg (by simp)] at he
      simp (disch := omega) only [g9', go_sem]
      refine SRun.appL ho rfl (ints1_ok v) (by simp only [ints_len, List.length_singleton]; omega) ?_
      intro q2 s2 ho2
      rw [ints_app] at ho2
      have ho3 := ho2.upd (c' := [.int .i64 0, q2]) (upd_same _ b9 _)
      rw [upd_upd] at ho3
      have g42 := ho2.get (g4 _ _)
      have g82 := ho2.get (g8 _ _)
      have hpl2 : (path ++ [v]).length = path.length + 1 := by simp
      have hq21 := ho2.one
      have hq2c := ho2.cells
      simp (disch := omega) only [ho2.get (upd_same _ b9 _), hq21, hq2c, stepW_len_own ho3, g42, n49, e0, ints_len, hpl2, go_sem]
      by_cases h6 : rs.length = i + 1
      · have d6 : decide (((path.length + 1 : Nat) : Int) > n.routers.length) = true := decide_eq_true (by omega)
        have d6' : decide ((path.length : Int) + 1 > n.routers.length) = true := decide_eq_true (by omega)
        have hm0 : m = 0 := by omega
        rw [hm0, walkGo] at he
        rw [he]
        simp (disch := omega) only [d6, d6', g82, n89, n98, hq21, hq2c, go_sem]
        have h2 := ho3.upd (c' := [.int .i64 3, q2]) (upd_same _ b9 _)
        rw [upd_upd, upd_upd] at h2
        have h3 := h2.upd (b := b8) (c' := [.int .i64 3, q2]) (g8 _ _)
        obtain ⟨s3, f1, f2⟩ := ownL_less (σ := σ) h3 fun d x h => by
          have e8 : d ≠ b8 := fun e => by subst e; rw [n8.2] at h; cases h
          rw [upd_ne _ _ e8]; exact hσ _ _ _ _ h
        exact W_retC c57_ok (r := .agg [.int .i64 3, q2]) (resV_cellA rfl (upd_same _ _ _) rfl) (Conv.drop _ f1) ⟨q2, rfl, f2⟩
      · have d6 : decide (((path.length + 1 : Nat) : Int) > n.routers.length) = false := decide_eq_false (by omega)
        have d6' : decide ((path.length : Int) + 1 > n.routers.length) = false := decide_eq_false (by omega)
        simp (disch := omega) only [d6, d6', go_sem]
        exact ih (i + 1, v, path ++ [v], q2, upd s2 b9 [.int .i64 0, q2]) _ _ ⟨by simp only; omega, ⟨by simp only; omega, by simp only; omega⟩, by simp only [List.length_append, List.length_singleton]; omega, by simp only; rw [he]; congr 1; omega, ho3⟩ (by simp only; omega) (by simp (disch := omega) only [subT, Int.natCast_add, Int.cast_ofNat_Int, go_sem] <;> (repeat' apply And.intro) <;> first | rfl | (congr 1; omega) | assumption) rfl
set_option maxHeartbeats 1000000 in
theorem Forward_ownL {n : Net} {ex ex2 : Bool} {down : List Bool} {rs : List Rt} {from_ port : Int} (hn : NetLen n) (hd : down.length ≤ 1000000000000) (hr : rs.length ≤ 1000000000000) :
    ACalls Try.prog Γ 13 [netV n, .isl ex 1 (bools down), .isl ex2 4 (rtsV rs), .int .i64 from_, .int .i64 port] σ fun r s => ∃ q, r = .tup [.agg [.int .i64 (fwdA n down rs from_ port).1, q], .int .i64 (fwdCode n down rs from_ port)] ∧ OwnL σ 1 (ints (fwdA n down rs from_ port).2) q s := by
  have hlen : (netC n).take 6 = netC n := rfl
  have hlen2 : (netC n).length = 6 := rfl
  have e0 : (netC n)[0]? = some (.isl false 1 (strsV n.routers)) := rfl
  have e1 : (netC n)[1]? = some (.isl false 3 (linksV n.links)) := rfl
  have hin : ∀ a b c, (decide (b ≤ a) && decide (a ≤ c)) = inB a b c := fun _ _ _ => rfl
  have l1 := hn.routers
  have l2 := hn.links
  have hc : fwdCode n down rs from_ port = if 4096 < down.length ∨ 4096 < rs.length then 2 else if netB n = false ∨ rtsB n rs = false then 1 else if down.length ≠ n.links.length ∨ routerB n.routers.length from_ = false ∨ inB port 0 15 = false then 5 else if (List.range rs.length).any (downOn n down rs) then 8 else 0 := rfl
  have ha : fwdA n down rs from_ port = if fwdCode n down rs from_ port = 0 then walkP n rs from_ port else (0, []) := rfl
  generalize fwdCode n down rs from_ port = code at *
  generalize fwdA n down rs from_ port = A at *
  refine acalls_W c13_ok rfl ?_
  simp (disch := omega) only [c13, netV, go_sem]
  refine SRun.boxR (net_one n) ?_
  intro b5 hb5
  simp (disch := omega) only [go_sem]
  refine SRun.allocR ?_
  intro b10 hb10
  have n10 := upd_none.1 hb10
  have n5 : b5 ≠ b10 := n10.1.symm
  have g5 : ∀ z, upd (upd σ b5 (netC n)) b10 z b5 = some (netC n) := fun z => by rw [upd_ne _ _ n5, upd_same]
  have hσ : ∀ z d x, σ d = some x → upd (upd σ b5 (netC n)) b10 z d = some x := fun z d x h => le_two hb5 n10.2 _ _ _ _ h
  have bad : ∀ c : Int, code = c → c ≠ 0 → ∃ q, V.tup [.agg [.int .i64 0, .isl true 0 []], .int .i64 c] = .tup [.agg [.int .i64 A.1, q], .int .i64 code] ∧ OwnL σ 1 (ints A.2) q σ := fun c h1 h2 => by
    rw [if_neg (by rw [h1]; exact h2)] at ha
    rw [ha, h1]; exact ⟨_, rfl, OwnL.nil _ _⟩
  simp (disch := omega) only [go_sem]
  by_cases c1 : 4096 < down.length ∨ 4096 < rs.length
  · rw [if_pos c1] at hc
    by_cases c2 : (down.length : Int) > 4096
    · have d2 : decide ((down.length : Int) > 4096) = true := decide_eq_true c2
      simp (disch := omega) only [d2, go_sem]
      exact W_retC c13_ok (r := .tup [.agg [.int .i64 0, .isl true 0 []], .int .i64 2]) (σ' := σ) (resV_cellT rfl (upd_same _ _ _) rfl rfl) (Conv.drop _ (hσ _)) (bad 2 hc (by decide))
    · have d2 : decide ((down.length : Int) > 4096) = false := decide_eq_false c2
      have d3 : decide ((rs.length : Int) > 4096) = true := decide_eq_true (by omega)
      simp (disch := omega) only [d2, d3, go_sem]
      exact W_retC c13_ok (r := .tup [.agg [.int .i64 0, .isl true 0 []], .int .i64 2]) (σ' := σ) (resV_cellT rfl (upd_same _ _ _) rfl rfl) (Conv.drop _ (hσ _)) (bad 2 hc (by decide))
  rw [if_neg c1] at hc
  have d2 : decide ((down.length : Int) > 4096) = false := decide_eq_false (by omega)
  have d3 : decide ((rs.length : Int) > 4096) = false := decide_eq_false (by omega)
  simp (disch := omega) only [d2, d3, g5, hlen, hlen2, go_sem]
  refine SRun.callR (isNet_ok hn) ⟨[], rfl, rfl⟩ rfl ?_
  cases c4 : netB n with
  | false =>
    rw [if_pos (.inl c4)] at hc
    simp (disch := omega) only [go_sem]
    exact W_retC c13_ok (r := .tup [.agg [.int .i64 0, .isl true 0 []], .int .i64 1]) (σ' := σ) (resV_cellT rfl (upd_same _ _ _) rfl rfl) (Conv.drop _ (hσ _)) (bad 1 hc (by decide))
  | true =>
  have hR := netR_of c4
  simp (disch := omega) only [g5, hlen, hlen2, go_sem]
  refine SRun.callR (areRoutes_ok (ex := ex2) hR hr) ⟨[], rfl, rfl⟩ rfl ?_
  cases c5 : rtsB n rs with
  | false =>
    rw [if_pos (.inr c5)] at hc
    simp (disch := omega) only [go_sem]
    exact W_retC c13_ok (r := .tup [.agg [.int .i64 0, .isl true 0 []], .int .i64 1]) (σ' := σ) (resV_cellT rfl (upd_same _ _ _) rfl rfl) (Conv.drop _ (hσ _)) (bad 1 hc (by decide))
  | true =>
  rw [c4, c5, if_neg (by simp)] at hc
  obtain ⟨w1, w2, w3, w4⟩ := rtsB_w hR c5
  have hrt : ∀ x r : Int, (decide (0 ≤ x) && decide (x ≤ r - 1)) = routerB r x := fun _ _ => rfl
  by_cases c6 : down.length = n.links.length
  case' neg =>
    have d6 : (decide ¬ (down.length : Int) = n.links.length) = true := decide_eq_true (by omega)
    rw [if_pos (.inl c6)] at hc
    simp (disch := omega) only [g5, e1, d6, go_sem]
    exact W_retC c13_ok (r := .tup [.agg [.int .i64 0, .isl true 0 []], .int .i64 5]) (σ' := σ) (resV_cellT rfl (upd_same _ _ _) rfl rfl) (Conv.drop _ (hσ _)) (bad 5 hc (by decide))
  have d6 : (decide ¬ (down.length : Int) = n.links.length) = false := decide_eq_false (by omega)
  simp (disch := omega) only [g5, e0, e1, d6, hlen, hlen2, go_sem]
  refine SRun.callR (isRouter_ok l1) ⟨[], rfl, rfl⟩ rfl ?_
  cases c7 : routerB n.routers.length from_ with
  | false =>
    rw [if_pos (.inr (.inl c7))] at hc
    simp (disch := omega) only [go_sem]
    exact W_retC c13_ok (r := .tup [.agg [.int .i64 0, .isl true 0 []], .int .i64 5]) (σ' := σ) (resV_cellT rfl (upd_same _ _ _) rfl rfl) (Conv.drop _ (hσ _)) (bad 5 hc (by decide))
  | true =>
  simp (disch := omega) only [go_sem]
  refine SRun.callR (within_ok port 0 15) ⟨[], rfl, rfl⟩ rfl ?_
  rw [hin]
  cases c8 : inB port 0 15 with
  | false =>
    rw [if_pos (.inr (.inr c8))] at hc
    simp (disch := omega) only [go_sem]
    exact W_retC c13_ok (r := .tup [.agg [.int .i64 0, .isl true 0 []], .int .i64 5]) (σ' := σ) (resV_cellT rfl (upd_same _ _ _) rfl rfl) (Conv.drop _ (hσ _)) (bad 5 hc (by decide))
  | true =>
  rw [c7, c8, if_neg (by simp [c6])] at hc
  have hfr : 0 ≤ from_ ∧ from_ < rs.length := by simp only [routerB, Bool.and_eq_true, decide_eq_true_eq] at c7; omega
  have gg5 := g5 [.int .i64 0, .isl true 0 []]
  have gg10 := upd_same (upd σ b5 (netC n)) b10 [.int .i64 0, .isl true 0 []]
  have hhσ := hσ [.int .i64 0, .isl true 0 []]
  simp (disch := omega) only [go_sem]
  generalize hs1 : upd (upd σ b5 (netC n)) b10 [.int .i64 0, .isl true 0 []] = s1 at *
  refine W_loopC (α := Nat × St) (fun p => p.1 ≤ rs.length ∧ (∀ d x, s1 d = some x → p.2 d = some x) ∧ ∀ j, j < p.1 → downOn n down rs j = false) (fun p => [(1, .isl ex 1 (bools down)), (2, .isl ex2 4 (rtsV rs)), (3, .int .i64 from_), (4, .int .i64 port), (5, .ptr b5 0), (10, .ptr b10 0), (54, .isl ex2 4 (rtsV rs)), (55, .int .i64 rs.length), (56, .int .i64 (p.1 : Nat))]) (fun p => p.2) (fun p => rs.length - p.1) (0, s1) ⟨by simp, fun _ _ h => h, fun j hj => by simp at hj⟩ (by simp (disch := omega) only [subT, Int.natCast_add, Int.cast_ofNat_Int, go_sem] <;> (repeat' apply And.intro) <;> first | rfl | (congr 1; omega) | assumption) rfl ?_
  rintro ⟨i, s⟩ ⟨hi, hle, hall⟩ ih
  dsimp only at hi hle hall
  have gg5' := hle _ _ gg5
  have gg10' := hle _ _ gg10
  simp (disch := omega) only [go_sem]
  first | refine iteW_dec (fun h1 => ?_) (fun h1 => ?_) | refine iteW_of (fun h1 => ?_) (fun h1 => ?_)
  · have hdef : downOn n down rs i = (decide ((rs.getD i default).via ≥ 0) && down.getD (linkP n.links i (rs.getD i default).via).toNat false) := rfl
    have hw4 := w4 i (by omega)
    have hlk := linkP_in n.links i (rs.getD i default).via
    have hL := fun Γ σ v => linkOf_ok (Γ := Γ) (σ := σ) (n := n) (x := i) (y := v) (by omega)
    simp (disch := omega) only [go_sem]
    generalize rs.getD i default = x at *
    obtain ⟨v, pp, pl, mk⟩ := x
    have hxc : rtC ⟨v, pp, pl, mk⟩ = [.int .i64 v, .int .i64 pp, .int .i64 pl, .bool mk] := rfl
    dsimp only at hdef hw4 hlk
    refine SRun.allocR ?_
    intro b13 hb13
    have n513 : b5 ≠ b13 := fun e => by subst e; rw [gg5'] at hb13; cases hb13
    have n1013 : b10 ≠ b13 := fun e => by subst e; rw [gg10'] at hb13; cases hb13
    have hle3 : ∀ z, ∀ d y, s1 d = some y → upd s b13 z d = some y := fun z d y h => le_upd hb13 _ _ (hle _ _ h)
    by_cases c9 : v ≥ 0
    · have d9 : decide (v ≥ 0) = true := decide_eq_true c9
      have hw5 := hw4 (by omega)
      rw [d9, Bool.true_and] at hdef
      simp (disch := omega) only [d9, hxc, gg5', n513, hlen, hlen2, go_sem]
      refine SRun.callR (hL _ _ _) ⟨[], rfl, rfl⟩ rfl ?_
      simp (disch := omega) only [go_sem]
      rw [← hdef]
      cases c10 : downOn n down rs i with
      | true =>
        rw [if_pos (any_range_t (i := i) (by omega) c10)] at hc
        simp (disch := omega) only [gg10', n1013, go_sem]
        refine W_retC c13_ok (r := .tup [.agg [.int .i64 0, .isl true 0 []], .int .i64 8]) (σ' := σ) (resV_cellT rfl (upd_same _ _ _) rfl rfl) (Conv.drop _ fun d x h => ?_) (bad 8 hc (by decide))
        have e10 : d ≠ b10 := fun e => by subst e; rw [n10.2] at h; cases h
        rw [upd_ne _ _ e10]; exact hle3 _ _ _ (hhσ _ _ h)
      | false =>
        simp (disch := omega) only [go_sem]
        refine ih (i + 1, _) _ _ ⟨by simp only; omega, hle3 _, fun j hj => ?_⟩ (by simp only; omega) (by simp (disch := omega) only [subT, Int.natCast_add, Int.cast_ofNat_Int, go_sem] <;> (repeat' apply And.intro) <;> first | rfl | (congr 1; omega) | assumption) rfl
        by_cases e : j = i
        · subst e; exact c10
        · exact hall j (by simp only at hj; omega)
    · have d9 : decide (v ≥ 0) = false := decide_eq_false c9
      rw [d9, Bool.false_and] at hdef
      simp (disch := omega) only [d9, hxc, go_sem]
      refine ih (i + 1, _) _ _ ⟨by simp only; omega, hle3 _, fun j hj => ?_⟩ (by simp only; omega) (by simp (disch := omega) only [subT, Int.natCast_add, Int.cast_ofNat_Int, go_sem] <;> (repeat' apply And.intro) <;> first | rfl | (congr 1; omega) | assumption) rfl
      by_cases e : j = i
      · subst e; exact hdef
      · exact hall j (by simp only at hj; omega)
  · have hil : i = rs.length := by omega
    subst hil
    rw [any_range_f hall, if_neg (by simp)] at hc
    rw [if_pos hc] at ha
    rw [ha, hc]
    simp (disch := omega) only [gg5', hlen, hlen2, go_sem]
    refine SRun.callQ (forward_ownL (ex := ex2) hn.filters (by omega) w2 w3 hfr w1) ⟨[], rfl, rfl⟩ rfl ?_
    rintro r s ⟨q, rfl, hp⟩
    simp (disch := omega) only [hp.get gg10', hp.one, hp.cells, go_sem]
    have hp2 := hp.upd (c' := [.int .i64 (walkP n rs from_ port).1, q]) gg10'
    obtain ⟨s3, f1, f2⟩ := ownL_less (σ := σ) hp2 fun d x h => by
      have e10 : d ≠ b10 := fun e => by subst e; rw [n10.2] at h; cases h
      rw [upd_ne _ _ e10]; exact hle _ _ (hhσ _ _ h)
    exact W_retC c13_ok (r := .tup [.agg [.int .i64 (walkP n rs from_ port).1, q], .int .i64 0]) (resV_cellT rfl (upd_same _ _ _) rfl rfl) (Conv.drop _ f1) ⟨q, rfl, f2⟩
end
section
attribute [local irreducible] SRun DS DRun
variable {Γ : St} {σ σ0 : St}
theorem toBoolS_own {ex : Bool} {xs : List Bool} (h1 : xs.length ≤ 1048576) : ACalls Try.prog Γ 23 [.isl ex 1 (bools xs)] σ fun r s => OwnL σ 1 (bools xs) r s := by
  have hc : ∀ x ∈ bools xs, x.cells.length = 1 ∧ ∀ c ∈ x.cells, c.one = true := one_cell (fun x hx => by obtain ⟨y, _, rfl⟩ := List.mem_map.1 hx; rfl)
  have hc1 := fun x hx => (hc x hx).1
  have hl : (bools xs).length = xs.length := bools_len xs
  refine acalls_W c23_ok rfl ?_
  simp (disch := omega) only [c23, go_sem]
  refine SRun.mkslR (n' := xs.length) (m := xs.length) rfl rfl rfl (Nat.le_refl _) (by omega) (by omega) ?_
  intro b hb
  simp (disch := omega) only [go_sem]
  refine W_loopC (α := Nat) (fun i => i ≤ xs.length) (fun i => [(0, .isl ex 1 (bools xs)), (3, .msl b 1 0 xs.length xs.length), (4, .int .i64 (i : Nat))]) (fun i => upd σ b (partR [V.bool false] (bools xs) xs.length i)) (fun i => xs.length - i) 0 (by omega) (by simp (disch := omega) only [subT, Int.natCast_add, Int.cast_ofNat_Int, go_sem] <;> (repeat' apply And.intro) <;> first | rfl | (congr 1; omega) | assumption) (by rw [partR_zero]) ?_
  intro i hi ih
  have hpl := partR_len (z := [V.bool false]) hc1 rfl hl hi
  have g1 := upd_same σ b (partR [V.bool false] (bools xs) xs.length i)
  simp (disch := omega) only [go_sem]
  first | refine iteW_dec (fun hq => ?_) (fun hq => ?_) | refine iteW_of (fun hq => ?_) (fun hq => ?_)
  · simp (disch := omega) only [g1, hpl, go_sem]
    have hx : (bools xs)[i]? = some (V.bool (xs.getD i false)) := by
      rw [bools, List.getElem?_map, List.getElem?_eq_getElem (by omega)]; simp [List.getD, show i < xs.length by omega]
    have hs : (partR [V.bool false] (bools xs) xs.length i).set i (V.bool (xs.getD i false)) = partR [V.bool false] (bools xs) xs.length (i + 1) := by
      have := partR_set (z := [V.bool false]) hc1 rfl hl hx
      rw [Nat.mul_one] at this
      exact this
    rw [hs]
    exact ih (i + 1) _ _ (by omega) (by omega) (by simp (disch := omega) only [subT, Int.natCast_add, Int.cast_ofNat_Int, go_sem] <;> (repeat' apply And.intro) <;> first | rfl | (congr 1; omega) | assumption) rfl
  · obtain rfl : i = xs.length := by omega
    simp (disch := omega) only [go_sem]
    exact W_retR c23_ok rfl (own_part hc hl hb)
theorem toRoute_ok {x : Rt} : Ret Try.prog Γ 84 [.agg (rtC x)] σ (.agg (rtC x)) σ := by
  have hone : ∀ c ∈ (V.agg (rtC x)).cells, c.one = true := by simp [rtC, V.cells, V.one]
  refine ret_of c84_ok rfl ?_
  simp (disch := omega) only [c84, go_sem]
  refine SRun.boxR hone ?_
  intro b1 hb1
  have g1 := upd_same σ b1 (rtC x)
  have hσ : ∀ d y, σ d = some y → upd σ b1 (rtC x) d = some y := le_upd hb1
  simp (disch := omega) only [go_sem]
  generalize upd σ b1 (rtC x) = s1 at *
  refine SRun.allocR ?_
  intro b2 hb2
  have g1' := le_upd (cs := [.int .i64 0, .int .i64 0, .int .i64 0, .bool false]) hb2 _ _ g1
  have g2 := upd_same s1 b2 [.int .i64 0, .int .i64 0, .int .i64 0, .bool false]
  have hσ2 : ∀ d y, σ d = some y → upd s1 b2 [.int .i64 0, .int .i64 0, .int .i64 0, .bool false] d = some y := fun d y h => le_upd hb2 _ _ (hσ d y h)
  simp (disch := omega) only [go_sem]
  generalize upd s1 b2 [.int .i64 0, .int .i64 0, .int .i64 0, .bool false] = s2 at *
  refine SRun.allocR ?_
  intro b3 hb3
  have n31 : b3 ≠ b1 := fun e => by subst e; rw [g1'] at hb3; cases hb3
  have n32 : b3 ≠ b2 := fun e => by subst e; rw [g2] at hb3; cases hb3
  have f1 : ∀ c, upd s2 b3 c b1 = some (rtC x) := fun c => by rw [upd_ne _ _ n31.symm]; exact g1'
  have f2 : ∀ c, upd s2 b3 c b2 = some [.int .i64 0, .int .i64 0, .int .i64 0, .bool false] := fun c => by rw [upd_ne _ _ n32.symm]; exact g2
  simp (disch := omega) only [f1, f2, rtC, go_sem]
  refine W_retC c84_ok (resV_cellA rfl (upd_same _ _ _) rfl) (Conv.drop _ fun d y hd => ?_) ⟨rfl, rfl⟩
  have hd2 : d ≠ b2 := fun e => by subst e; rw [hσ d y hd] at hb2; cases hb2
  have hd3 : d ≠ b3 := fun e => by subst e; rw [hσ2 d y hd] at hb3; cases hb3
  rw [upd_ne _ _ hd2, upd_ne _ _ hd3]
  exact hσ2 d y hd
theorem toRouteS_own {ex : Bool} {xs : List (Rt)} (h1 : xs.length ≤ 1048576) : ACalls Try.prog Γ 24 [.isl ex 4 (rtsV xs)] σ fun r s => OwnL σ 4 (rtsV xs) r s := by
  have hc : ∀ x ∈ rtsV xs, x.cells.length = 4 ∧ ∀ c ∈ x.cells, c.one = true := fun x hx => by obtain ⟨y, _, rfl⟩ := List.mem_map.1 hx; simp [rtC, V.cells, V.one]
  have hc1 := fun x hx => (hc x hx).1
  have hl : (rtsV xs).length = xs.length := rtsV_len xs
  refine acalls_W c24_ok rfl ?_
  simp (disch := omega) only [c24, go_sem]
  refine SRun.mkslR (n' := xs.length) (m := xs.length) rfl rfl rfl (Nat.le_refl _) (by omega) (by omega) ?_
  intro b hb
  simp (disch := omega) only [go_sem]
  refine W_loopC (α := Nat) (fun i => i ≤ xs.length) (fun i => [(0, .isl ex 4 (rtsV xs)), (3, .msl b 4 0 xs.length xs.length), (4, .int .i64 (i : Nat))]) (fun i => upd σ b (partR [.int .i64 0, .int .i64 0, .int .i64 0, .bool false] (rtsV xs) xs.length i)) (fun i => xs.length - i) 0 (by omega) (by simp (disch := omega) only [subT, Int.natCast_add, Int.cast_ofNat_Int, go_sem] <;> (repeat' apply And.intro) <;> first | rfl | (congr 1; omega) | assumption) (by rw [partR_zero]) ?_
  intro i hi ih
  have hpl := partR_len (z := [.int .i64 0, .int .i64 0, .int .i64 0, .bool false]) hc1 rfl hl hi
  have g1 := upd_same σ b (partR [.int .i64 0, .int .i64 0, .int .i64 0, .bool false] (rtsV xs) xs.length i)
  simp (disch := omega) only [go_sem]
  first | refine iteW_dec (fun hq => ?_) (fun hq => ?_) | refine iteW_of (fun hq => ?_) (fun hq => ?_)
  · have htk : (rtC (xs.getD i default)).take 4 = rtC (xs.getD i default) := rfl
    have hln : (rtC (xs.getD i default)).length = 4 := rfl
    have hone : (∀ c, c ∈ rtC (xs.getD i default) → c.one = true) = True := eq_true (by simp [rtC, V.one])
    simp (disch := omega) only [htk, hln, go_sem]
    refine SRun.callR (toRoute_ok) ⟨[], rfl, rfl⟩ rfl ?_
    simp (disch := omega) only [List.getD_cons_zero, List.getD_cons_succ, go_sem]
    simp (disch := omega) only [g1, hpl, hln, hone, go_sem]
    have hx : (rtsV xs)[i]? = some (.agg (rtC (xs.getD i default))) := by
      rw [rtsV, List.getElem?_map, List.getElem?_eq_getElem (by omega)]; simp [List.getD, show i < xs.length by omega]
    have hs : sets (partR [.int .i64 0, .int .i64 0, .int .i64 0, .bool false] (rtsV xs) xs.length i) (i * 4) (rtC (xs.getD i default)) = partR [.int .i64 0, .int .i64 0, .int .i64 0, .bool false] (rtsV xs) xs.length (i + 1) := partR_set (z := [.int .i64 0, .int .i64 0, .int .i64 0, .bool false]) hc1 rfl hl hx
    rw [hs]
    exact ih (i + 1) _ _ (by omega) (by omega) (by simp (disch := omega) only [subT, Int.natCast_add, Int.cast_ofNat_Int, go_sem] <;> (repeat' apply And.intro) <;> first | rfl | (congr 1; omega) | assumption) rfl
  · obtain rfl : i = xs.length := by omega
    simp (disch := omega) only [go_sem]
    exact W_retR c24_ok rfl (own_part hc hl hb)
theorem eqBoolS_ok {ex ex2 : Bool} {xs : List Bool} (h1 : xs.length ≤ 1048576) : Ret Try.prog Γ 27 [.isl ex 1 (bools xs), .isl ex2 1 (bools xs)] σ (.bool true) σ := by
  refine ret_of c27_ok rfl ?_
  simp (disch := omega) only [c27, dec_same, go_sem]
  refine W_loopC (α := Nat) (fun i => i ≤ xs.length) (fun i => [(0, .isl ex 1 (bools xs)), (1, .isl ex2 1 (bools xs)), (5, .int .i64 (i : Nat))]) (fun i => σ) (fun i => xs.length - i) 0 (by omega) (by simp (disch := omega) only [subT, Int.natCast_add, Int.cast_ofNat_Int, go_sem] <;> (repeat' apply And.intro) <;> first | rfl | (congr 1; omega) | assumption) rfl ?_
  intro i hi ih
  have hbb : ∀ b : Bool, (b == b) = true := fun b => by simp
  have hnt : (!true) = false := rfl
  simp (disch := omega) only [go_sem]
  first | refine iteW_dec (fun hq => ?_) (fun hq => ?_) | refine iteW_of (fun hq => ?_) (fun hq => ?_)
  · simp (disch := omega) only [go_sem]
    refine W_drawW ?_
    simp (disch := omega) only [dec_same, hbb, hnt, go_sem]
    exact ih (i + 1) _ _ (by omega) (by omega) (by simp (disch := omega) only [subT, Int.natCast_add, Int.cast_ofNat_Int, go_sem] <;> (repeat' apply And.intro) <;> first | rfl | (congr 1; omega) | assumption) rfl
  · simp (disch := omega) only [go_sem]
    exact W_retR c27_ok rfl ⟨rfl, rfl⟩
theorem eqRoute_ok {x : Rt} : Ret Try.prog Γ 90 [.agg (rtC x), .agg (rtC x)] σ (.bool true) σ := by
  have hone : ∀ c ∈ (V.agg (rtC x)).cells, c.one = true := by simp [rtC, V.cells, V.one]
  have hdef : rtC x = _ := rfl
  refine ret_of c90_ok rfl ?_
  simp (disch := omega) only [c90, go_sem]
  refine SRun.boxR hone ?_
  intro b1 hb1
  have g1 := upd_same σ b1 (rtC x)
  have hσ : ∀ d y, σ d = some y → upd σ b1 (rtC x) d = some y := le_upd hb1
  simp (disch := omega) only [go_sem]
  generalize upd σ b1 (rtC x) = s1 at *
  refine SRun.boxR hone ?_
  intro b2 hb2
  have f1 := le_upd (cs := rtC x) hb2 _ _ g1
  have f2 := upd_same s1 b2 (rtC x)
  have hσ2 : ∀ d y, σ d = some y → upd s1 b2 (rtC x) d = some y := fun d y h => le_upd hb2 _ _ (hσ d y h)
  simp (disch := omega) only [go_sem]
  generalize upd s1 b2 (rtC x) = s2 at *
  have hbb : ∀ b : Bool, (b == b) = true := fun b => by simp
  have hnt : (!true) = false := rfl
  simp (disch := omega) only [f1, f2, dec_same, rtC, hbb, hnt, go_sem]
  exact W_retC c90_ok rfl (Conv.drop _ hσ2) ⟨rfl, rfl⟩
theorem eqRouteS_ok {ex ex2 : Bool} {xs : List Rt} (h1 : xs.length ≤ 1048576) : Ret Try.prog Γ 28 [.isl ex 4 (rtsV xs), .isl ex2 4 (rtsV xs)] σ (.bool true) σ := by
  refine ret_of c28_ok rfl ?_
  simp (disch := omega) only [c28, dec_same, go_sem]
  refine W_loopC (α := Nat) (fun i => i ≤ xs.length) (fun i => [(0, .isl ex 4 (rtsV xs)), (1, .isl ex2 4 (rtsV xs)), (5, .int .i64 (i : Nat))]) (fun i => σ) (fun i => xs.length - i) 0 (by omega) (by simp (disch := omega) only [subT, Int.natCast_add, Int.cast_ofNat_Int, go_sem] <;> (repeat' apply And.intro) <;> first | rfl | (congr 1; omega) | assumption) rfl ?_
  intro i hi ih
  simp (disch := omega) only [go_sem]
  first | refine iteW_dec (fun hq => ?_) (fun hq => ?_) | refine iteW_of (fun hq => ?_) (fun hq => ?_)
  · have htk : (rtC (xs.getD i default)).take 4 = rtC (xs.getD i default) := rfl
    have hln : (rtC (xs.getD i default)).length = 4 := rfl
    simp (disch := omega) only [go_sem]
    refine W_drawW ?_
    simp (disch := omega) only [htk, hln, go_sem]
    refine DRun.callQ (eqRoute_ok) ⟨[], rfl, rfl⟩ ?_
    rintro r s ⟨rfl, hs⟩
    obtain rfl := hs.symm
    simp (disch := omega) only [go_sem]
    exact ih (i + 1) _ _ (by omega) (by omega) (by simp (disch := omega) only [subT, Int.natCast_add, Int.cast_ofNat_Int, go_sem] <;> (repeat' apply And.intro) <;> first | rfl | (congr 1; omega) | assumption) rfl
  · simp (disch := omega) only [go_sem]
    exact W_retR c28_ok rfl ⟨rfl, rfl⟩
theorem szRouteS_ok {ex : Bool} {es : Nat} {xs : List V} {l : Int} (hl : 0 ≤ l ∧ l ≤ 1048576) (h1 : xs.length ≤ 9223372036854775807) : ACalls Try.prog Γ 21 [.isl ex es xs, .int .i64 l] σ fun r s => s = σ ∧ Left l (xs.length ≤ 1048576) r := by
  refine acalls_W c21_ok rfl ?_
  simp (disch := omega) only [c21, go_sem]
  first | refine iteW_dec (fun h => ?_) (fun h => ?_) | refine iteW_of (fun h => ?_) (fun h => ?_)
  · simp (disch := omega) only [go_sem]
    exact W_retR c21_ok rfl ⟨rfl, -1, rfl, by omega, by omega, fun h => by omega⟩
  · simp (disch := omega) only [go_sem]
    exact W_retR c21_ok rfl ⟨rfl, l - xs.length, rfl, by omega, by omega, fun h => by omega⟩
set_option maxHeartbeats 1000000 in
theorem markIntR_ok {n : Nat} {q : V} {k : Int} (h : Room σ 1 n q) (hl : n ≤ 1048576) (hk : 0 ≤ k ∧ k ≤ 900000000) : ACalls Try.prog Γ 93 [q, .int .i64 k] σ fun r s => Marked σ q k (1 * n) r s := by
  rcases h with ⟨rfl, es', rfl⟩ | ⟨b, cap, cs, rfl, hb, hcs⟩
  · refine acalls_W c93_ok rfl ?_
    simp (disch := omega) only [c93, go_sem]
    refine W_loopC (α := Unit) (fun _ => True) (fun _ => [(0, .isl true es' []), (1, .int .i64 k), (5, .int .i64 0)]) (fun _ => σ) (fun _ => 0) () trivial (by simp (disch := omega) only [subT, Int.natCast_add, Int.cast_ofNat_Int, go_sem] <;> (repeat' apply And.intro) <;> first | rfl | (congr 1; omega) | assumption) rfl ?_
    intro _ _ _
    simp (disch := omega) only [List.length_nil, go_sem]
    exact W_retR c93_ok rfl ⟨⟨k, rfl, by omega, by omega⟩, Shape.refl _, fun _ _ => rfl⟩
  · refine acalls_W c93_ok rfl ?_
    simp (disch := omega) only [c93, go_sem]
    refine W_loopC (α := Nat × List V) (fun p => p.1 ≤ n ∧ p.2.length = cs.length) (fun p => [(0, .msl b 1 0 n cap), (1, .int .i64 (k + 1 * p.1)), (5, .int .i64 (p.1 : Nat))]) (fun p => upd σ b p.2) (fun p => n - p.1) (0, cs) ⟨by simp, rfl⟩ (by simp (disch := omega) only [subT, Int.natCast_add, Int.cast_ofNat_Int, Int.natCast_zero, Int.mul_zero, Int.add_zero, go_sem] <;> (repeat' apply And.intro) <;> first | rfl | (congr 1; omega) | assumption) (upd_self _ hb) ?_
    rintro ⟨i, c⟩ ⟨hi, hc⟩ ih
    dsimp only at hi hc
    have g := fun x => upd_same σ b x
    simp (disch := omega) only [go_sem]
    first | refine iteW_dec (fun h1 => ?_) (fun h1 => ?_) | refine iteW_of (fun h1 => ?_) (fun h1 => ?_)
    · simp (disch := omega) only [g, List.length_set, go_sem]
      exact ih (i + 1, _) _ _ ⟨by simp only; omega, by simp only [List.length_set]; exact hc⟩ (by simp only; omega) (by simp (disch := omega) only [subT, Int.natCast_add, Int.cast_ofNat_Int, go_sem] <;> (repeat' apply And.intro) <;> first | rfl | (congr 1; omega) | assumption) rfl
    · have hil : i = n := by omega
      subst hil
      simp (disch := omega) only [go_sem]
      exact W_retR c93_ok rfl ⟨⟨k + 1 * i, rfl, by omega, by omega⟩, Shape.upd hb hc, fun d hd => upd_ne _ _ (fun e => hd (by rw [e]; rfl))⟩
set_option maxHeartbeats 1000000 in
theorem markRouteS_ok {n : Nat} {q : V} {k : Int} (h : Room σ 4 n q) (hl : n ≤ 1048576) (hk : 0 ≤ k ∧ k ≤ 900000000) : ACalls Try.prog Γ 31 [q, .int .i64 k] σ fun r s => Marked σ q k (4 * n) r s := by
  rcases h with ⟨rfl, es', rfl⟩ | ⟨b, cap, cs, rfl, hb, hcs⟩
  · refine acalls_W c31_ok rfl ?_
    simp (disch := omega) only [c31, go_sem]
    refine W_loopC (α := Unit) (fun _ => True) (fun _ => [(0, .isl true es' []), (1, .int .i64 k), (5, .int .i64 0)]) (fun _ => σ) (fun _ => 0) () trivial (by simp (disch := omega) only [subT, Int.natCast_add, Int.cast_ofNat_Int, go_sem] <;> (repeat' apply And.intro) <;> first | rfl | (congr 1; omega) | assumption) rfl ?_
    intro _ _ _
    simp (disch := omega) only [List.length_nil, go_sem]
    exact W_retR c31_ok rfl ⟨⟨k, rfl, by omega, by omega⟩, Shape.refl _, fun _ _ => rfl⟩
  · refine acalls_W c31_ok rfl ?_
    simp (disch := omega) only [c31, go_sem]
    refine W_loopC (α := Nat × List V) (fun p => p.1 ≤ n ∧ p.2.length = cs.length) (fun p => [(0, .msl b 4 0 n cap), (1, .int .i64 (k + 4 * p.1)), (5, .int .i64 (p.1 : Nat))]) (fun p => upd σ b p.2) (fun p => n - p.1) (0, cs) ⟨by simp, rfl⟩ (by simp (disch := omega) only [subT, Int.natCast_add, Int.cast_ofNat_Int, Int.natCast_zero, Int.mul_zero, Int.add_zero, go_sem] <;> (repeat' apply And.intro) <;> first | rfl | (congr 1; omega) | assumption) (upd_self _ hb) ?_
    rintro ⟨i, c⟩ ⟨hi, hc⟩ ih
    dsimp only at hi hc
    have g := fun x => upd_same σ b x
    simp (disch := omega) only [go_sem]
    first | refine iteW_dec (fun h1 => ?_) (fun h1 => ?_) | refine iteW_of (fun h1 => ?_) (fun h1 => ?_)
    · simp (disch := omega) only [g, List.length_set, go_sem]
      exact ih (i + 1, _) _ _ ⟨by simp only; omega, by simp only [List.length_set]; exact hc⟩ (by simp only; omega) (by simp (disch := omega) only [subT, Int.natCast_add, Int.cast_ofNat_Int, go_sem] <;> (repeat' apply And.intro) <;> first | rfl | (congr 1; omega) | assumption) rfl
    · have hil : i = n := by omega
      subst hil
      simp (disch := omega) only [go_sem]
      exact W_retR c31_ok rfl ⟨⟨k + 4 * i, rfl, by omega, by omega⟩, Shape.upd hb hc, fun d hd => upd_ne _ _ (fun e => hd (by rw [e]; rfl))⟩
set_option maxHeartbeats 1000000 in
theorem markBoolR_ok {n : Nat} {q : V} {k : Int} (h : Room σ 1 n q) (hl : n ≤ 1048576) (hk : 0 ≤ k ∧ k ≤ 900000000) : ACalls Try.prog Γ 30 [q, .int .i64 k] σ fun r s => Marked σ q k (1 * n) r s := by
  rcases h with ⟨rfl, es', rfl⟩ | ⟨b, cap, cs, rfl, hb, hcs⟩
  · refine acalls_W c30_ok rfl ?_
    simp (disch := omega) only [c30, go_sem]
    refine W_loopC (α := Unit) (fun _ => True) (fun _ => [(0, .isl true es' []), (1, .int .i64 k), (5, .int .i64 0)]) (fun _ => σ) (fun _ => 0) () trivial (by simp (disch := omega) only [subT, Int.natCast_add, Int.cast_ofNat_Int, go_sem] <;> (repeat' apply And.intro) <;> first | rfl | (congr 1; omega) | assumption) rfl ?_
    intro _ _ _
    simp (disch := omega) only [List.length_nil, go_sem]
    exact W_retR c30_ok rfl ⟨⟨k, rfl, by omega, by omega⟩, Shape.refl _, fun _ _ => rfl⟩
  · refine acalls_W c30_ok rfl ?_
    simp (disch := omega) only [c30, go_sem]
    refine W_loopC (α := Nat × List V) (fun p => p.1 ≤ n ∧ p.2.length = cs.length) (fun p => [(0, .msl b 1 0 n cap), (1, .int .i64 (k + 1 * p.1)), (5, .int .i64 (p.1 : Nat))]) (fun p => upd σ b p.2) (fun p => n - p.1) (0, cs) ⟨by simp, rfl⟩ (by simp (disch := omega) only [subT, Int.natCast_add, Int.cast_ofNat_Int, Int.natCast_zero, Int.mul_zero, Int.add_zero, go_sem] <;> (repeat' apply And.intro) <;> first | rfl | (congr 1; omega) | assumption) (upd_self _ hb) ?_
    rintro ⟨i, c⟩ ⟨hi, hc⟩ ih
    dsimp only at hi hc
    have g := fun x => upd_same σ b x
    simp (disch := omega) only [go_sem]
    first | refine iteW_dec (fun h1 => ?_) (fun h1 => ?_) | refine iteW_of (fun h1 => ?_) (fun h1 => ?_)
    · simp (disch := omega) only [g, List.length_set, go_sem]
      exact ih (i + 1, _) _ _ ⟨by simp only; omega, by simp only [List.length_set]; exact hc⟩ (by simp only; omega) (by simp (disch := omega) only [subT, Int.natCast_add, Int.cast_ofNat_Int, go_sem] <;> (repeat' apply And.intro) <;> first | rfl | (congr 1; omega) | assumption) rfl
    · have hil : i = n := by omega
      subst hil
      simp (disch := omega) only [go_sem]
      exact W_retR c30_ok rfl ⟨⟨k + 1 * i, rfl, by omega, by omega⟩, Shape.upd hb hc, fun d hd => upd_ne _ _ (fun e => hd (by rw [e]; rfl))⟩
def Rooms (σ : St) (n : Net) (qs : List V) : Prop := ∃ q0 q1 q2 q3 q4 q5, qs = [q0, q1, q2, q3, q4, q5] ∧ Room σ 1 n.routers.length q0 ∧ Room σ 3 n.links.length q1 ∧ Room σ 1 n.origins.length q2 ∧ Room σ 1 n.externals.length q3 ∧ Room σ 5 n.imports.length q4 ∧ Room σ 4 n.filters.length q5
theorem NetAt.rooms {n : Net} {qs : List V} {s : St} (h : NetAt σ0 n qs s) : Rooms s n qs := by
  obtain ⟨q0, q1, q2, q3, q4, q5, rfl, _, _, a0, a1, a2, a3, a4, a5⟩ := h
  have r0 := a0.room
  have r1 := a1.room
  have r2 := a2.room
  have r3 := a3.room
  have r4 := a4.room
  have r5 := a5.room
  rw [strsV_len] at r0
  rw [linksV_len] at r1
  rw [ints_len] at r2 r3
  rw [impsV_len] at r4
  rw [filsV_len] at r5
  exact ⟨q0, q1, q2, q3, q4, q5, rfl, r0, r1, r2, r3, r4, r5⟩
theorem Room.blk {es len : Nat} {q : V} (h : Room σ es len q) {b : Nat} (hb : σ b = none) : Lg.blk q ≠ some b := by
  rcases h with ⟨_, es', rfl⟩ | ⟨b', cap, cs, rfl, h1, h2⟩
  · intro e; cases e
  · intro e
    simp only [Lg.blk, Option.some.injEq] at e
    subst e; rw [hb] at h1; cases h1
theorem Room.one {es len : Nat} {q : V} (h : Room σ es len q) : q.one = true ∧ q.cells = [q] := by
  rcases h with ⟨_, es', rfl⟩ | ⟨b', cap, cs, rfl, h1, h2⟩ <;> exact ⟨rfl, rfl⟩
theorem Shape.new {b : Nat} {c : List V} (hb : σ b = none) : Shape σ (Lg.upd σ b c) := fun d x h => ⟨x, le_upd hb _ _ h, rfl⟩
def Off (qs : List V) (b : Nat) : Prop := ∀ q ∈ qs, Lg.blk q ≠ some b
set_option maxHeartbeats 1000000 in
theorem markNet_ok {n : Net} (hn : NetFew n) {qs : List V} (h : Rooms σ n qs) : ACalls Try.prog Γ 29 [.agg qs, .int .i64 1] σ fun r s => (∃ k', r = .int .i64 k' ∧ 1 ≤ k' ∧ k' ≤ 100000000) ∧ Shape σ s ∧ ∀ b, Off qs b → s b = σ b := by
  obtain ⟨q0, q1, q2, q3, q4, q5, rfl, r0, r1, r2, r3, r4, r5⟩ := h
  have l0 := hn.routers
  have l1 := hn.links
  have l2 := hn.origins
  have l3 := hn.externals
  have l4 := hn.imports
  have l5 := hn.filters
  refine acalls_W c29_ok rfl ?_
  simp (disch := omega) only [c29, go_sem]
  refine SRun.boxR (by
    intro c hc
    simp only [ev, look, V.cells, if_true, List.mem_cons, List.not_mem_nil, or_false] at hc
    rcases hc with rfl | rfl | rfl | rfl | rfl | rfl
    · exact r0.one.1
    · exact r1.one.1
    · exact r2.one.1
    · exact r3.one.1
    · exact r4.one.1
    · exact r5.one.1) ?_
  intro b2 hb2
  have m0 := r0.blk hb2
  have m1 := r1.blk hb2
  have m2 := r2.blk hb2
  have m3 := r3.blk hb2
  have m4 := r4.blk hb2
  have m5 := r5.blk hb2
  have sh : Shape σ (upd σ b2 [q0, q1, q2, q3, q4, q5]) := Shape.new hb2
  have g2 := upd_same σ b2 [q0, q1, q2, q3, q4, q5]
  have fr : ∀ b, (∀ q ∈ [q0, q1, q2, q3, q4, q5], blk q ≠ some b) → b ≠ b2 → upd σ b2 [q0, q1, q2, q3, q4, q5] b = σ b := fun b _ hb => upd_ne _ _ hb
  simp (disch := omega) only [go_sem]
  generalize upd σ b2 [q0, q1, q2, q3, q4, q5] = s0 at *
  refine SRun.callQ (markStringS_ok (r0.shape sh) l0 (by omega)) ⟨[], rfl, rfl⟩ rfl ?_
  rintro r t0 ⟨⟨k0, rfl, ka0, kb0⟩, sh0, fr0⟩
  have sh := sh.trans sh0
  have g2 := (fr0 b2 m0).trans g2
  have fr : ∀ b, (∀ q ∈ [q0, q1, q2, q3, q4, q5], blk q ≠ some b) → b ≠ b2 → t0 b = σ b := fun b hb he => (fr0 b (hb q0 (by simp))).trans (fr b hb he)
  simp (disch := omega) only [g2, go_sem]
  refine SRun.callQ (markLinkS_ok (r1.shape sh) l1 (by omega)) ⟨[], rfl, rfl⟩ rfl ?_
  rintro r t1 ⟨⟨k1, rfl, ka1, kb1⟩, sh1, fr1⟩
  have sh := sh.trans sh1
  have g2 := (fr1 b2 m1).trans g2
  have fr : ∀ b, (∀ q ∈ [q0, q1, q2, q3, q4, q5], blk q ≠ some b) → b ≠ b2 → t1 b = σ b := fun b hb he => (fr1 b (hb q1 (by simp))).trans (fr b hb he)
  simp (disch := omega) only [g2, go_sem]
  refine SRun.callQ (markIntR_ok (r2.shape sh) l2 (by omega)) ⟨[], rfl, rfl⟩ rfl ?_
  rintro r t2 ⟨⟨k2, rfl, ka2, kb2⟩, sh2, fr2⟩
  have sh := sh.trans sh2
  have g2 := (fr2 b2 m2).trans g2
  have fr : ∀ b, (∀ q ∈ [q0, q1, q2, q3, q4, q5], blk q ≠ some b) → b ≠ b2 → t2 b = σ b := fun b hb he => (fr2 b (hb q2 (by simp))).trans (fr b hb he)
  simp (disch := omega) only [g2, go_sem]
  refine SRun.callQ (markIntR_ok (r3.shape sh) l3 (by omega)) ⟨[], rfl, rfl⟩ rfl ?_
  rintro r t3 ⟨⟨k3, rfl, ka3, kb3⟩, sh3, fr3⟩
  have sh := sh.trans sh3
  have g2 := (fr3 b2 m3).trans g2
  have fr : ∀ b, (∀ q ∈ [q0, q1, q2, q3, q4, q5], blk q ≠ some b) → b ≠ b2 → t3 b = σ b := fun b hb he => (fr3 b (hb q3 (by simp))).trans (fr b hb he)
  simp (disch := omega) only [g2, go_sem]
  refine SRun.callQ (markImportS_ok (r4.shape sh) l4 (by omega)) ⟨[], rfl, rfl⟩ rfl ?_
  rintro r t4 ⟨⟨k4, rfl, ka4, kb4⟩, sh4, fr4⟩
  have sh := sh.trans sh4
  have g2 := (fr4 b2 m4).trans g2
  have fr : ∀ b, (∀ q ∈ [q0, q1, q2, q3, q4, q5], blk q ≠ some b) → b ≠ b2 → t4 b = σ b := fun b hb he => (fr4 b (hb q4 (by simp))).trans (fr b hb he)
  simp (disch := omega) only [g2, go_sem]
  refine SRun.callQ (markFilterS_ok (r5.shape sh) l5 (by omega)) ⟨[], rfl, rfl⟩ rfl ?_
  rintro r t5 ⟨⟨k5, rfl, ka5, kb5⟩, sh5, fr5⟩
  have sh := sh.trans sh5
  have g2 := (fr5 b2 m5).trans g2
  have fr : ∀ b, (∀ q ∈ [q0, q1, q2, q3, q4, q5], blk q ≠ some b) → b ≠ b2 → t5 b = σ b := fun b hb he => (fr5 b (hb q5 (by simp))).trans (fr b hb he)
  simp (disch := omega) only [g2, go_sem]
  have hkk : k5 ≤ 100000000 := by omega
  refine W_retC c29_ok rfl (σ' := del t5 b2) (Conv.drop _ fun d x hd => ?_) ⟨⟨k5, rfl, by omega, hkk⟩, fun d x hd => ?_, fun b hb => ?_⟩
  · by_cases e : d = b2
    · subst e; rw [del_same] at hd; cases hd
    · rwa [del_ne _ e] at hd
  · obtain ⟨c', h1, h2⟩ := sh d x hd
    have e : d ≠ b2 := fun e => by subst e; rw [hb2] at hd; cases hd
    exact ⟨c', by rw [del_ne _ e]; exact h1, h2⟩
  · by_cases e : b = b2
    · subst e; rw [del_same, hb2]
    · rw [del_ne _ e]; exact fr b hb e
end
section
attribute [local irreducible] SRun DS DRun
variable {Γ : St} {σ σ0 : St}
theorem toBoolS_ok {ex : Bool} {xs : List Bool} (h : xs.length ≤ 1048576) : Ret Try.prog Γ 23 [.isl ex 1 (bools xs)] σ (.isl false 1 (bools xs)) σ := (toBoolS_own h).conv fun r s ho => ⟨_, _, ho.conv, rfl, rfl⟩
theorem toRouteS_ok {ex : Bool} {xs : List Rt} (h : xs.length ≤ 1048576) : Ret Try.prog Γ 24 [.isl ex 4 (rtsV xs)] σ (.isl false 4 (rtsV xs)) σ := (toRouteS_own h).conv fun r s ho => ⟨_, _, ho.conv, rfl, rfl⟩
theorem walk_one (o : Int) {q : V} (h : q.one = true) : ∀ c ∈ (V.agg [.int .i64 o, q]).cells, c.one = true := by
  intro c hc
  simp only [V.cells, List.mem_cons, List.not_mem_nil, or_false] at hc
  rcases hc with rfl | rfl
  · rfl
  · exact h
theorem eqWalk_ok {o : Int} {ex ex2 : Bool} {xs : List Int} (h : xs.length ≤ 1048576) : Ret Try.prog Γ 25 [.agg [.int .i64 o, .isl ex 1 (ints xs)], .agg [.int .i64 o, .isl ex2 1 (ints xs)]] σ (.bool true) σ := by
  refine ret_of c25_ok rfl ?_
  simp (disch := omega) only [c25, go_sem]
  refine SRun.boxR (walk_one o rfl) ?_
  intro b2 hb2
  simp (disch := omega) only [go_sem]
  refine SRun.boxR (walk_one o rfl) ?_
  intro b3 hb3
  have n3 := upd_none.1 hb3
  have n23 : b2 ≠ b3 := n3.1.symm
  have hle := le_two hb2 n3.2
  have hoo : (decide ¬ o = o) = false := by simp
  simp (disch := omega) only [n23, hoo, go_sem]
  refine SRun.callR (eqIntS_ok h) ⟨[], rfl, rfl⟩ rfl ?_
  simp (disch := omega) only [go_sem]
  exact W_retC c25_ok rfl (Conv.drop _ (hle _ _)) ⟨rfl, rfl⟩
theorem wrt_le {q : V} {b : Nat} {z c : List V} (hb : σ b = none) (hq : blk q ≠ some b) : ∀ d x, wrt σ q c d = some x → wrt (upd σ b z) q c d = some x := by
  intro d x h
  have hd : d ≠ b := fun e => by subst e; rw [wrt_ne hq, hb] at h; cases h
  by_cases e : blk q = some d
  · cases q <;> simp only [blk, Option.some.injEq, reduceCtorEq] at e
    subst e
    simp only [wrt, upd_same] at h ⊢; exact h
  · rw [wrt_ne e] at h ⊢
    rw [upd_ne _ _ hd]; exact h
theorem markWalk_at {o k : Int} {xs : List Int} {q : V} (h : At σ 1 (ints xs) q) (hl : xs.length ≤ 1048576) (hk : 0 ≤ k ∧ k ≤ 1000000000) : ACalls Try.prog Γ 32 [.agg [.int .i64 o, q], .int .i64 k] σ fun r s => r = .int .i64 (k + xs.length) ∧ s = wrt σ q (ints (upFrom k xs.length)) := by
  refine acalls_W c32_ok rfl ?_
  simp (disch := omega) only [c32, go_sem]
  refine SRun.boxR (walk_one o h.one) ?_
  intro b2 hb2
  have hq : blk q ≠ some b2 := fun e => by have := h.has e; rw [hb2] at this; cases this
  have h2 := h.upd hq [.int .i64 o, q]
  simp (disch := omega) only [go_sem]
  refine SRun.callQ (markIntS_at h2 hl hk) ⟨[], rfl, rfl⟩ rfl ?_
  rintro r s ⟨rfl, rfl⟩
  simp (disch := omega) only [go_sem]
  exact W_retC c32_ok rfl (σ' := wrt σ q (ints (upFrom k xs.length))) (Conv.drop _ (wrt_le hb2 hq)) ⟨rfl, rfl⟩
theorem heldWalk_ok {o k : Int} {ex : Bool} {n : Nat} (hl : n ≤ 1048576) (hk : 0 ≤ k ∧ k ≤ 1000000000) : Ret Try.prog Γ 33 [.agg [.int .i64 o, .isl ex 1 (ints (upFrom k n))], .int .i64 k] σ (.int .i64 (k + n)) σ := by
  refine ret_of c33_ok rfl ?_
  simp (disch := omega) only [c33, go_sem]
  refine SRun.boxR (walk_one o rfl) ?_
  intro b2 hb2
  simp (disch := omega) only [go_sem]
  refine SRun.callR (heldIntS_ok hl hk) ⟨[], rfl, rfl⟩ rfl ?_
  simp (disch := omega) only [go_sem]
  exact W_retC c33_ok rfl (Conv.drop _ (le_upd hb2)) ⟨rfl, rfl⟩
theorem walk_lend {s : St} {o : Int} {xs : List Int} {q : V} (h : At s 1 (ints xs) q) : Frz s emp (.agg [.int .i64 o, q]) (.agg [.int .i64 o, .isl false 1 (ints xs)]) := frz_agg (by exact ⟨.refl _, h.lend, trivial⟩) (by simp [V.one])
theorem Shape.le {s t : St} (h : ∀ b c, s b = some c → t b = some c) : Shape s t := fun b c hb => ⟨c, h b c hb, rfl⟩
/-- What is asked to stay: it is off a list that is written over. -/
theorem off_of {m q : V} {B0 S S1 : St} {K : Nat → Prop} (h0 : ∀ b, blk m = some b → B0 b = none) (hK : ∀ b, K b → B0 b ≠ none) (h1 : ∀ b, blk m = some b → S b ≠ none) (hq : ∀ b, blk q = some b → S b = none) {b17 : Nat} (hle : ∀ b c, S b = some c → S1 b = some c) (h17 : S1 b17 = none) :
    ∀ b, (K b ∨ b = b17 ∨ blk q = some b) → blk m ≠ some b := by
  intro b hb e
  rcases hb with hb | rfl | hb
  · exact hK b hb (h0 b e)
  · exact h1 _ e (none_of hle _ h17)
  · exact h1 _ e (hq b hb)

theorem walkGo_len {n : Net} {rs : List Rt} {port : Int} : ∀ (m : Nat) (a : Int) (path : List Int), (walkGo n rs port m a path).2.length ≤ path.length + m := by
  intro m
  induction m with
  | zero => intro a path; unfold walkGo; exact Nat.le_refl _
  | succ m ih =>
    intro a path
    unfold walkGo
    split
    · exact Nat.le_add_right _ _
    split
    · exact Nat.le_add_right _ _
    split
    · exact Nat.le_add_right _ _
    split
    · exact Nat.le_add_right _ _
    · refine Nat.le_trans (ih _ _) ?_
      rw [List.length_append, List.length_singleton]; omega
theorem fwd_small {n : Net} {down : List Bool} {rs : List Rt} {from_ port : Int} : (fwdA n down rs from_ port).2.length ≤ 1048576 := by
  unfold fwdA
  split
  · rename_i hc
    have hr : rs.length ≤ 4096 := by
      rcases Nat.lt_or_ge 4096 rs.length with h | h
      · unfold fwdCode at hc
        rw [if_pos (.inr h)] at hc
        omega
      · exact h
    have h := walkGo_len (n := n) (rs := rs) (port := port) rs.length from_ [from_]
    have hw : walkP n rs from_ port = walkGo n rs port rs.length from_ [from_] := rfl
    rw [hw]
    rw [List.length_singleton] at h
    omega
  · exact Nat.zero_le _
end
section
attribute [local irreducible] SRun DS DRun
variable {Γ : St} {σ σ0 : St}
theorem NetAt.ats {n : Net} {qs : List V} {s : St} (h : NetAt σ0 n qs s) : ∀ m ∈ qs, ∃ es xs, At s es xs m := by
  obtain ⟨q0, q1, q2, q3, q4, q5, rfl, _, _, a0, a1, a2, a3, a4, a5⟩ := h
  intro m hm
  simp only [List.mem_cons, List.not_mem_nil, or_false] at hm
  rcases hm with rfl | rfl | rfl | rfl | rfl | rfl
  · exact ⟨_, _, a0⟩
  · exact ⟨_, _, a1⟩
  · exact ⟨_, _, a2⟩
  · exact ⟨_, _, a3⟩
  · exact ⟨_, _, a4⟩
  · exact ⟨_, _, a5⟩
theorem Rooms.shape {n : Net} {qs : List V} {s : St} (h : Rooms σ n qs) (hs : Shape σ s) : Rooms s n qs := by
  obtain ⟨q0, q1, q2, q3, q4, q5, rfl, r0, r1, r2, r3, r4, r5⟩ := h
  exact ⟨q0, q1, q2, q3, q4, q5, rfl, r0.shape hs, r1.shape hs, r2.shape hs, r3.shape hs, r4.shape hs, r5.shape hs⟩
set_option maxHeartbeats 4000000 in
set_option maxRecDepth 100000 in
theorem fnExactForward_ok {n : Net} {down : List Bool} {rs : List Rt} {from_ port : Int} (hn : NetIn n) (hd : down.length ≤ 9223372036854775807) (hr : rs.length ≤ 9223372036854775807) : Ret Try.prog Γ 5 [netV n, .isl false 1 (bools down), .isl false 4 (rtsV rs), .int .i64 from_, .int .i64 port] σ (.bool true) σ := by
  have hlen : (netC n).take 6 = netC n := rfl
  have hlen2 : (netC n).length = 6 := rfl
  refine ret_of c5_ok rfl ?_
  simp (disch := omega) only [c5, netV, go_sem]
  refine SRun.boxR (net_one n) ?_
  intro b5 hb5
  have g5 := upd_same σ b5 (netC n)
  have hσ : ∀ d y, σ d = some y → upd σ b5 (netC n) d = some y := le_upd hb5
  simp (disch := omega) only [go_sem]
  generalize upd σ b5 (netC n) = s1 at *
  first | refine iteW_dec (fun h1 => ?_) (fun h1 => ?_) | refine iteW_of (fun h1 => ?_) (fun h1 => ?_)
  · simp (disch := omega) only [go_sem]
    exact W_retC c5_ok rfl (Conv.drop _ hσ) ⟨rfl, rfl⟩
  have hd1 : down.length ≤ 1048576 := by omega
  simp (disch := omega) only [g5, hlen, hlen2, go_sem]
  refine SRun.callQ (szNet_ok hn ⟨by omega, by omega⟩) ⟨[], rfl, rfl⟩ rfl ?_
  rintro r s ⟨hs, x1, rfl, h2, h2', k1⟩
  obtain rfl := hs.symm
  simp (disch := omega) only [go_sem]
  first | refine iteW_dec (fun q1 => ?_) (fun q1 => ?_) | refine iteW_of (fun q1 => ?_) (fun q1 => ?_)
  · simp (disch := omega) only [go_sem]
    exact W_retC c5_ok rfl (Conv.drop _ hσ) ⟨rfl, rfl⟩
  have hf := k1 (by omega)
  have hN := hf.len
  simp (disch := omega) only [go_sem]
  refine SRun.callQ (szRouteS_ok (ex := false) (es := 4) (xs := rtsV rs) ⟨by omega, by omega⟩ (by rw [rtsV_len]; exact hr)) ⟨[], rfl, rfl⟩ rfl ?_
  rintro r s ⟨hs, x2, rfl, h3, h3', k2⟩
  obtain rfl := hs.symm
  simp (disch := omega) only [go_sem]
  first | refine iteW_dec (fun q2 => ?_) (fun q2 => ?_) | refine iteW_of (fun q2 => ?_) (fun q2 => ?_)
  · simp (disch := omega) only [go_sem]
    exact W_retC c5_ok rfl (Conv.drop _ hσ) ⟨rfl, rfl⟩
  have hr1 : rs.length ≤ 1048576 := by have := k2 (by omega); rwa [rtsV_len] at this
  have hvv : fwdV n down rs from_ port = .tup [.agg [.int .i64 (fwdA n down rs from_ port).1, .isl false 1 (ints (fwdA n down rs from_ port).2)], .int .i64 (fwdCode n down rs from_ port)] := rfl
  have F1 := fun Γ σ => Forwards_ok (Γ := Γ) (σ := σ) (ex := false) (ex2 := false) (down := down) (rs := rs) (from_ := from_) (port := port) hN (by omega) (by omega)
  have F2 := fun Γ σ => Forward_ok (Γ := Γ) (σ := σ) (ex := false) (ex2 := false) (down := down) (rs := rs) (from_ := from_) (port := port) hN (by omega) (by omega)
  have F3 := fun Γ => Forward_ownL (Γ := Γ) (σ := emp) (ex := false) (ex2 := false) (down := down) (rs := rs) (from_ := from_) (port := port) hN (by omega) (by omega)
  have hpl : (fwdA n down rs from_ port).2.length ≤ 1048576 := fwd_small
  rw [hvv] at F1 F2
  generalize fwdA n down rs from_ port = A at *
  obtain ⟨o, path⟩ := A
  generalize fwdCode n down rs from_ port = code at *
  dsimp only at F1 F2 F3 hpl
  have hcc : (decide ¬ code = code) = false := by simp
  simp (disch := omega) only [g5, hlen, hlen2, go_sem]
  refine SRun.callR (toNet_ok hf) ⟨[], rfl, rfl⟩ rfl ?_
  simp (disch := omega) only [go_sem]
  refine SRun.callR (toBoolS_ok hd1) ⟨[], rfl, rfl⟩ rfl ?_
  simp (disch := omega) only [go_sem]
  refine SRun.callR (toRouteS_ok hr1) ⟨[], rfl, rfl⟩ rfl ?_
  simp (disch := omega) only [go_sem]
  refine SRun.callR (F1 _ _) ⟨[], rfl, rfl⟩ rfl ?_
  simp (disch := omega) only [go_sem]
  refine SRun.allocR ?_
  intro b12 hb12
  have g5b := le_upd (cs := [.int .i64 o, .isl false 1 (ints path)]) hb12 _ _ g5
  have g12 := upd_same s1 b12 [.int .i64 o, .isl false 1 (ints path)]
  have hσ2 : ∀ d y, σ d = some y → upd s1 b12 [.int .i64 o, .isl false 1 (ints path)] d = some y := fun d y h => le_upd hb12 _ _ (hσ d y h)
  simp (disch := omega) only [go_sem]
  generalize upd s1 b12 [.int .i64 o, .isl false 1 (ints path)] = s2 at *
  simp (disch := omega) only [g5b, hlen, hlen2, go_sem]
  refine SRun.callQ (toNet_own hf) ⟨[], rfl, rfl⟩ rfl ?_
  rintro r s3 ⟨qs, rfl, ha⟩
  have hqs := ha.one
  have hfr : ∀ q ∈ qs, ∀ b, blk q = some b → s2 b = none := by obtain ⟨_, _, _, _, _, _, _, _, h, _⟩ := ha; exact h
  have hle3 : ∀ b c, s2 b = some c → s3 b = some c := by obtain ⟨_, _, _, _, _, _, _, h, _⟩ := ha; exact h
  have hqone : (∀ c, c ∈ qs → c.one = true) = True := eq_true hqs.1
  have hqt : qs.take 6 = qs := List.take_of_length_le (by omega)
  have hql := hqs.2
  have hqset : sets [V.isl true 0 [], V.isl true 0 [], V.isl true 0 [], V.isl true 0 [], V.isl true 0 [], V.isl true 0 []] 0 qs = qs := by
    obtain ⟨_, _, _, _, _, _, rfl, _⟩ := ha; rfl
  simp (disch := omega) only [go_sem]
  refine SRun.allocR ?_
  intro b14 hb14
  simp (disch := omega) only [hql, hqone, hqset, go_sem]
  have g14 := upd_same s3 b14 qs
  have hle4 := le_upd (cs := qs) hb14
  have g5c := hle4 _ _ (hle3 _ _ g5b)
  generalize upd s3 b14 qs = s4 at *
  refine SRun.callQ (toBoolS_own hd1) ⟨[], rfl, rfl⟩ rfl ?_
  intro q15 s5 o15
  simp (disch := omega) only [go_sem]
  refine SRun.callQ (toRouteS_own hr1) ⟨[], rfl, rfl⟩ rfl ?_
  intro q16 s6 o16
  have h46 : ∀ b c, s4 b = some c → s6 b = some c := fun b c h => o16.le _ _ (o15.le _ _ h)
  have g14c := h46 _ _ g14
  obtain ⟨a15, f15⟩ := o15.atQ
  have a15 := a15.mono o16.le
  obtain ⟨a16, f16⟩ := o16.atQ
  have ha6 : Frz s6 emp (.agg qs) (netV n) := ha.lend.more fun b c h => h46 _ _ (hle4 _ _ h)
  simp (disch := omega) only [g14c, hqt, hql, go_sem]
  refine SRun.callQ (ACalls.lend (F3 _) (args := [.agg qs, q15, q16, .int .i64 from_, .int .i64 port]) rfl (frzL_get (by exact ⟨ha6, a15.lend, a16.lend, .refl _, .refl _, trivial⟩)) ?_) ⟨[], rfl, rfl⟩ rfl ?_
  · rintro r s ⟨q, rfl, ho⟩
    refine ⟨Plain.tup fun x hx => ?_, fun b cs hb c hc => ?_⟩
    · simp only [List.mem_cons, List.not_mem_nil, or_false] at hx
      rcases hx with rfl | rfl
      · refine Plain.agg fun x hx => ?_
        simp only [List.mem_cons, List.not_mem_nil, or_false] at hx
        rcases hx with rfl | rfl
        · exact Plain.int _ _
        · exact ho.plain
      · exact Plain.int _ _
    · rcases ho.1 with ⟨_, _, rfl, _⟩ | ⟨b2, cap, _, _, rfl, _⟩
      · cases hb
      · by_cases e : b = b2
        · subst e; rw [upd_same] at hb; cases hb; rw [flat_ints] at hc; exact Plain.ints _ hc
        · rw [upd_ne _ _ e] at hb; cases hb
  rintro r s7 ⟨s', rfl, hdj, q, rfl, ho⟩
  have ho := ownL_join ho hdj
  generalize hs7 : cup s' s6 = s7 at *
  obtain ⟨aq, fq⟩ := ho.atQ
  have hle7 := ho.le
  have hq1 := ho.one
  have hqc := ho.cells
  simp (disch := omega) only [go_sem]
  refine SRun.allocR ?_
  intro b17 hb17
  have le26 : ∀ b c, s2 b = some c → s6 b = some c := fun b c h => h46 _ _ (hle4 _ _ (hle3 _ _ h))
  have le78 := le_upd (cs := [.int .i64 o, q]) hb17
  have le28 : ∀ b c, s2 b = some c → upd s7 b17 [.int .i64 o, q] b = some c := fun b c h => le78 _ _ (hle7 _ _ (le26 _ _ h))
  have g5d := le28 _ _ g5b
  have g12d := le28 _ _ g12
  have g14d := le78 _ _ (hle7 _ _ g14c)
  have g17d := upd_same s7 b17 [.int .i64 o, q]
  have aqd := aq.mono le78
  have ha8 := ha6.more fun b c h => le78 _ _ (hle7 _ _ h)
  have a15d := a15.mono fun b c h => le78 _ _ (hle7 _ _ h)
  have a16d := a16.mono fun b c h => le78 _ _ (hle7 _ _ h)
  have rm := ha.rooms.shape (Shape.le fun b c h => le78 _ _ (hle7 _ _ (h46 _ _ (hle4 _ _ h))))
  -- what stays
  have hK2 : ∀ b, (σ b ≠ none ∨ b = b5 ∨ b = b12) → s2 b ≠ none := fun b hb => by
    rcases hb with hb | rfl | rfl
    · cases e : σ b with
      | none => exact absurd e hb
      | some c => rw [hσ2 _ _ e]; simp
    · rw [g5b]; simp
    · rw [g12]; simp
  have hKle : ∀ {s : St}, (∀ b c, s2 b = some c → s b = some c) → ∀ b, (σ b ≠ none ∨ b = b5 ∨ b = b12) → s b ≠ none := fun hl b hb => by
    cases e : s2 b with
    | none => exact absurd e (hK2 b hb)
    | some c => rw [hl _ _ e]; simp
  have offN : ∀ m ∈ qs, ∀ b, ((σ b ≠ none ∨ b = b5 ∨ b = b12) ∨ b = b17 ∨ blk q = some b) → blk m ≠ some b := fun m hm => by
    obtain ⟨es, xs, hat⟩ := ha.ats m hm
    exact off_of (hfr m hm) hK2 (fun b hb => by rw [h46 _ _ (hle4 _ _ (hat.has hb))]; simp) fq hle7 hb17
  have off15 : ∀ b, ((σ b ≠ none ∨ b = b5 ∨ b = b12) ∨ b = b17 ∨ blk q = some b) → blk q15 ≠ some b :=
    off_of f15 (hKle fun b c h => hle4 _ _ (hle3 _ _ h)) (fun b hb => by rw [a15.has hb]; simp) fq hle7 hb17
  have off16 : ∀ b, ((σ b ≠ none ∨ b = b5 ∨ b = b12) ∨ b = b17 ∨ blk q = some b) → blk q16 ≠ some b :=
    off_of f16 (hKle fun b c h => o15.le _ _ (hle4 _ _ (hle3 _ _ h))) (fun b hb => by rw [a16.has hb]; simp) fq hle7 hb17
  have hσ8 : ∀ d y, σ d = some y → upd s7 b17 [.int .i64 o, q] d = some y := fun d y h => le28 _ _ (hσ2 _ _ h)
  have offq : ∀ b, (σ b ≠ none ∨ b = b5 ∨ b = b12 ∨ b = b17) → blk q ≠ some b := fun b hb e => by
    rcases hb with hb | hb | hb | hb
    · exact hKle le26 b (.inl hb) (fq b e)
    · exact hKle le26 b (.inr (.inl hb)) (fq b e)
    · exact hKle le26 b (.inr (.inr hb)) (fq b e)
    · subst hb; have := aq.has e; rw [hb17] at this; cases this
  simp (disch := omega) only [hq1, hqc, g12d, go_sem]
  generalize upd s7 b17 [.int .i64 o, q] = s8 at *
  have frW := walk_lend (o := o) aqd
  refine SRun.callR (Ret.lendL (eqWalk_ok (ex := false) (ex2 := false) hpl) (by exact ⟨frW, .refl _, trivial⟩) (Plain.bool _)) ⟨[], rfl, rfl⟩ rfl ?_
  simp (disch := omega) only [hcc, go_sem]
  refine W_drawW ?_
  refine DRun.mixE rfl ?_
  simp (disch := omega) only [g14d, g5d, hlen, hlen2, hqt, hql, go_sem]
  refine DS.callB (toNet_ok hf) ⟨[], rfl, rfl⟩ rfl rfl ?_
  simp (disch := omega) only [go_sem]
  refine DRun.callQ (Ret.lendL (eqNet_ok hf) (by exact ⟨ha8, .refl _, trivial⟩) (Plain.bool _)) ⟨[], rfl, rfl⟩ ?_
  rintro r s ⟨rfl, hs⟩
  obtain rfl := hs.symm
  simp (disch := omega) only [go_sem]
  refine SRun.callR (toBoolS_ok hd1) ⟨[], rfl, rfl⟩ rfl ?_
  simp (disch := omega) only [go_sem]
  refine SRun.callR (Ret.lendL (eqBoolS_ok (ex := false) (ex2 := false) hd1) (by exact ⟨a15d.lend, .refl _, trivial⟩) (Plain.bool _)) ⟨[], rfl, rfl⟩ rfl ?_
  simp (disch := omega) only [go_sem]
  refine SRun.callR (toRouteS_ok hr1) ⟨[], rfl, rfl⟩ rfl ?_
  simp (disch := omega) only [go_sem]
  refine SRun.callR (Ret.lendL (eqRouteS_ok (ex := false) (ex2 := false) hr1) (by exact ⟨a16d.lend, .refl _, trivial⟩) (Plain.bool _)) ⟨[], rfl, rfl⟩ rfl ?_
  simp (disch := omega) only [g14d, hqt, hql, go_sem]
  refine SRun.callQ (markNet_ok hf rm) ⟨[], rfl, rfl⟩ rfl ?_
  rintro r s9 ⟨⟨k9, rfl, ka9, kb9⟩, sh9, fr9⟩
  simp (disch := omega) only [go_sem]
  have r15 := (a15d.room).shape sh9
  have r16 := (a16d.room).shape sh9
  rw [bools_len] at r15
  rw [rtsV_len] at r16
  refine SRun.callQ (markBoolR_ok r15 hd1 (by omega)) ⟨[], rfl, rfl⟩ rfl ?_
  rintro r s10 ⟨⟨k10, rfl, ka10, kb10⟩, sh10, fr10⟩
  simp (disch := omega) only [go_sem]
  refine SRun.callQ (markRouteS_ok (r16.shape sh10) hr1 (by omega)) ⟨[], rfl, rfl⟩ rfl ?_
  rintro r s11 ⟨⟨k11, rfl, ka11, kb11⟩, sh11, fr11⟩
  have keep : ∀ b, ((σ b ≠ none ∨ b = b5 ∨ b = b12) ∨ b = b17 ∨ blk q = some b) → s11 b = s8 b := fun b hb =>
    (fr11 b (off16 b hb)).trans ((fr10 b (off15 b hb)).trans (fr9 b fun m hm => offN m hm b hb))
  have g5e := (keep b5 (.inl (.inr (.inl rfl)))).trans g5d
  have g12e := (keep b12 (.inl (.inr (.inr rfl)))).trans g12d
  have g17e := (keep b17 (.inr (.inl rfl))).trans g17d
  have aqe := aqd.to fun b hb => keep b (.inr (.inr hb))
  have hσ11 : ∀ d y, σ d = some y → s11 d = some y := fun d y h => (keep d (.inl (.inl (by rw [h]; simp)))).trans (hσ8 _ _ h)
  have frE := walk_lend (o := o) aqe
  clear keep fr9 fr10 fr11 sh9 sh10 sh11 r15 r16 offN off15 off16
  have hk11 : decide (k11 < 0) = false := decide_eq_false (by omega)
  simp (disch := omega) only [hk11, g12e, g17e, go_sem]
  refine SRun.callR (Ret.lendL (eqWalk_ok (ex := false) (ex2 := false) hpl) (by exact ⟨frE, .refl _, trivial⟩) (Plain.bool _)) ⟨[], rfl, rfl⟩ rfl ?_
  simp (disch := omega) only [hcc, g17e, go_sem]
  refine SRun.callQ (markWalk_at (k := 1) aqe hpl (by omega)) ⟨[], rfl, rfl⟩ rfl ?_
  rintro r s12 ⟨rfl, hs12⟩
  have aqf : At s12 1 (ints (upFrom 1 path.length)) q := by
    have h := aqe.wrt (ys := ints (upFrom 1 path.length)) (by rw [ints_len, ints_len, upFrom_len]) (ints_ok _)
    rw [flat_ints] at h
    rw [hs12]; exact h
  have keep2 : ∀ b, (σ b ≠ none ∨ b = b5 ∨ b = b12 ∨ b = b17) → s12 b = s11 b := fun b hb => by rw [hs12]; exact wrt_ne (offq b hb)
  have g5f := (keep2 b5 (.inr (.inl rfl))).trans g5e
  have g12f := (keep2 b12 (.inr (.inr (.inl rfl)))).trans g12e
  have g17f := (keep2 b17 (.inr (.inr (.inr rfl)))).trans g17e
  have hσ12 : ∀ d y, σ d = some y → s12 d = some y := fun d y h => (keep2 d (.inl (by rw [h]; simp))).trans (hσ11 _ _ h)
  clear hs12 keep2
  have frF := walk_lend (o := o) aqf
  have hne2 : (decide ¬ (1 + (path.length : Int) = 1 + path.length)) = false := by simp
  simp (disch := omega) only [g17f, go_sem]
  refine SRun.callR (Ret.lendL (heldWalk_ok (ex := false) (k := 1) (n := path.length) hpl (by omega)) (by exact ⟨frF, .refl _, trivial⟩) (Plain.int _ _)) ⟨[], rfl, rfl⟩ rfl ?_
  simp (disch := omega) only [hne2, g5f, hlen, hlen2, go_sem]
  refine SRun.callR (toNet_ok hf) ⟨[], rfl, rfl⟩ rfl ?_
  simp (disch := omega) only [go_sem]
  refine SRun.callR (toBoolS_ok hd1) ⟨[], rfl, rfl⟩ rfl ?_
  simp (disch := omega) only [go_sem]
  refine SRun.callR (toRouteS_ok hr1) ⟨[], rfl, rfl⟩ rfl ?_
  simp (disch := omega) only [go_sem]
  refine SRun.callR (F2 _ _) ⟨[], rfl, rfl⟩ rfl ?_
  simp (disch := omega) only [go_sem]
  refine SRun.allocR ?_
  intro b22 hb22
  have le13 := le_upd (cs := [.int .i64 o, .isl false 1 (ints path)]) hb22
  have g12g := le13 _ _ g12f
  have g17g := le13 _ _ g17f
  have aqg := aqf.mono le13
  have frG := walk_lend (o := o) aqg
  simp (disch := omega) only [g12g, go_sem]
  generalize upd s12 b22 [.int .i64 o, .isl false 1 (ints path)] = s13 at *
  refine SRun.callR (eqWalk_ok (ex := false) (ex2 := false) hpl) ⟨[], rfl, rfl⟩ rfl ?_
  simp (disch := omega) only [hcc, g17g, go_sem]
  refine SRun.callR (Ret.lendL (heldWalk_ok (ex := false) (k := 1) (n := path.length) hpl (by omega)) (by exact ⟨frG, .refl _, trivial⟩) (Plain.int _ _)) ⟨[], rfl, rfl⟩ rfl ?_
  simp (disch := omega) only [hne2, go_sem]
  exact W_retC c5_ok rfl (Conv.drop _ fun d y h => le13 _ _ (hσ12 _ _ h)) ⟨rfl, rfl⟩
end
end Go.Proofs.Ytabelcohkpmpnaa.Lg
