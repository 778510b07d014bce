/- Packets go: the reference's and the program's, for any arguments. -/
import Derived.Test.YtabelcohkpmpnaaWj
set_option linter.unusedSimpArgs false
set_option linter.unusedVariables false
namespace Go.Proofs.Ytabelcohkpmpnaa.Lg
open Go
attribute [local irreducible] SRun DS DRun
variable {Γ : St} {σ σ0 : St}
theorem resV_cellT {T : Ts} {a n m b : Nat} {cs : List V} {v : V} (h1 : look T a = .ptr b 0) (h2 : σ b = some cs) (h3 : cs.length = n) (h4 : look T m = v) : resV [.cell a true n, .t m] T σ = some (.tup [.agg cs, v]) := by
  have ht : cs.take n = cs := List.take_of_length_le (by omega)
  simp [resV, resV1, h1, h2, h3, h4, ht]
def downOn (n : Net) (down : List Bool) (rs : List Rt) (i : Nat) : Bool := decide ((rs.getD i default).via ≥ 0) && down.getD (linkP n.links i (rs.getD i default).via).toNat false
def fwdCode (n : Net) (down : List Bool) (rs : List Rt) (from_ port : Int) : Int :=
  if 4096 < down.length ∨ 4096 < rs.length then 2 else if netB n = false ∨ rtsB n rs = false then 1
  else if down.length ≠ n.links.length ∨ routerB n.routers.length from_ = false ∨ inB port 0 15 = false then 5
  else if (List.range rs.length).any (downOn n down rs) then 8 else 0
def fwdA (n : Net) (down : List Bool) (rs : List Rt) (from_ port : Int) : Int × List Int := if fwdCode n down rs from_ port = 0 then walkP n rs from_ port else (0, [])
theorem rtsB_w {n : Net} {rs : List Rt} (hn : NetR n) (h : rtsB n rs = true) : rs.length = n.routers.length ∧ ViasIn rs ∧ (∀ v : Int, -3 ≤ (rtAt rs v).via) ∧ ∀ i : Nat, i < rs.length → 0 ≤ (rs.getD i default).via → 0 ≤ linkP n.links i (rs.getD i default).via := by
  have r1 := hn.r1
  simp only [rtsB, Bool.and_eq_true, decide_eq_true_eq, List.all_eq_true, List.mem_range] at h
  obtain ⟨h1, h2⟩ := h
  have hdf : ∀ v : Int, ¬ v.toNat < rs.length → rtAt rs v = default := fun v hv => by simp [rtAt, List.getD, List.getElem?_eq_none (by omega : rs.length ≤ v.toNat)]
  have h3 : ∀ i : Nat, i < rs.length → (-3 ≤ (rs.getD i default).via ∧ (rs.getD i default).via < n.routers.length) ∧ (0 ≤ (rs.getD i default).via → 0 ≤ linkP n.links i (rs.getD i default).via) := by
    intro i hi
    have := h2 i hi
    simp only [rtB, inB, Bool.and_eq_true, decide_eq_true_eq, Bool.or_eq_true] at this
    obtain ⟨⟨⟨⟨h4, _⟩, _⟩, h5⟩, _⟩ := this
    exact ⟨by omega, fun h => h5.resolve_left (by omega)⟩
  refine ⟨h1, fun v => ?_, fun v => ?_, fun i hi => (h3 i hi).2⟩
  · by_cases hv : v.toNat < rs.length
    · have := (h3 _ hv).1
      unfold rtAt; omega
    · rw [hdf v hv]; show (0 : Int) < _; omega
  · by_cases hv : v.toNat < rs.length
    · have := (h3 _ hv).1
      unfold rtAt; omega
    · rw [hdf v hv]; show (-3 : Int) ≤ 0; omega
theorem any_range_t {p : Nat → Bool} {m i : Nat} (hi : i < m) (h : p i = true) : (List.range m).any p = true := List.any_eq_true.2 ⟨i, List.mem_range.2 hi, h⟩
theorem any_range_f {p : Nat → Bool} {m : Nat} (h : ∀ i, i < m → p i = false) : (List.range m).any p = false := by
  rw [List.any_eq_false]; intro i hi; rw [h i (List.mem_range.1 hi)]; simp
set_option maxHeartbeats 1000000 in
theorem Forwards_own {n : Net} {ex ex2 : Bool} {down : List Bool} {rs : List Rt} {from_ port : Int} (hn : NetLen n) (hd : down.length ≤ 1000000000000) (hr : rs.length ≤ 1000000000000) :
    ACalls Try.prog Γ 14 [netV n, .isl ex 1 (bools down), .isl ex2 4 (rtsV rs), .int .i64 from_, .int .i64 port] σ fun r s => ∃ q, r = .tup [.agg [.int .i64 (fwdA n down rs from_ port).1, q], .int .i64 (fwdCode n down rs from_ port)] ∧ PathO σ 1 (ints (fwdA n down rs from_ port).2) q s := by
  have hlen : (netC n).take 6 = netC n := rfl
  have hlen2 : (netC n).length = 6 := rfl
  have e0 : (netC n)[0]? = some (.isl false 1 (strsV n.routers)) := rfl
  have e1 : (netC n)[1]? = some (.isl false 3 (linksV n.links)) := rfl
  have hin : ∀ a b c, (decide (b ≤ a) && decide (a ≤ c)) = inB a b c := fun _ _ _ => rfl
  have l1 := hn.routers
  have l2 := hn.links
  have hc : fwdCode n down rs from_ port = if 4096 < down.length ∨ 4096 < rs.length then 2 else if netB n = false ∨ rtsB n rs = false then 1 else if down.length ≠ n.links.length ∨ routerB n.routers.length from_ = false ∨ inB port 0 15 = false then 5 else if (List.range rs.length).any (downOn n down rs) then 8 else 0 := rfl
  have ha : fwdA n down rs from_ port = if fwdCode n down rs from_ port = 0 then walkP n rs from_ port else (0, []) := rfl
  generalize fwdCode n down rs from_ port = code at *
  generalize fwdA n down rs from_ port = A at *
  refine acalls_W c14_ok rfl ?_
  simp (disch := omega) only [c14, netV, go_sem, ↓if_pos, ne_eq, ↓reduceIte]
  refine SRun.boxR (net_one n) ?_
  intro b5 hb5
  simp (disch := omega) only [go_sem, ↓if_pos, ne_eq, ↓reduceIte]
  refine SRun.allocR ?_
  intro b10 hb10
  have n10 := upd_none.1 hb10
  have n5 : b5 ≠ b10 := n10.1.symm
  have g5 : ∀ z, upd (upd σ b5 (netC n)) b10 z b5 = some (netC n) := fun z => by rw [upd_ne _ _ n5, upd_same]
  have hσ : ∀ z d x, σ d = some x → upd (upd σ b5 (netC n)) b10 z d = some x := fun z d x h => le_two hb5 n10.2 _ _ _ _ h
  have bad : ∀ c : Int, code = c → c ≠ 0 → ∃ q, V.tup [.agg [.int .i64 0, .isl true 0 []], .int .i64 c] = .tup [.agg [.int .i64 A.1, q], .int .i64 code] ∧ PathO σ 1 (ints A.2) q σ := fun c h1 h2 => by
    rw [if_neg (by rw [h1]; exact h2)] at ha
    rw [ha, h1]; exact ⟨_, rfl, .inr (OwnL.nil _ _)⟩
  simp (disch := omega) only [go_sem, ↓if_pos, ne_eq, ↓reduceIte]
  by_cases c1 : 4096 < down.length ∨ 4096 < rs.length
  · rw [if_pos c1] at hc
    by_cases c2 : (down.length : Int) > 4096
    · have d2 : decide ((down.length : Int) > 4096) = true := decide_eq_true c2
      simp (disch := omega) only [d2, go_sem, ↓if_pos, ne_eq, ↓reduceIte]
      exact W_retC c14_ok (r := .tup [.agg [.int .i64 0, .isl true 0 []], .int .i64 2]) (σ' := σ) (resV_cellT rfl (upd_same _ _ _) rfl rfl) (Conv.drop _ (hσ _)) (bad 2 hc (by decide))
    · have d2 : decide ((down.length : Int) > 4096) = false := decide_eq_false c2
      have d3 : decide ((rs.length : Int) > 4096) = true := decide_eq_true (by omega)
      simp (disch := omega) only [d2, d3, go_sem, ↓if_pos, ne_eq, ↓reduceIte]
      exact W_retC c14_ok (r := .tup [.agg [.int .i64 0, .isl true 0 []], .int .i64 2]) (σ' := σ) (resV_cellT rfl (upd_same _ _ _) rfl rfl) (Conv.drop _ (hσ _)) (bad 2 hc (by decide))
  rw [if_neg c1] at hc
  have d2 : decide ((down.length : Int) > 4096) = false := decide_eq_false (by omega)
  have d3 : decide ((rs.length : Int) > 4096) = false := decide_eq_false (by omega)
  simp (disch := omega) only [d2, d3, g5, hlen, hlen2, go_sem, ↓if_pos, ne_eq, ↓reduceIte]
  refine SRun.callR (NetOK_ok hn) ⟨[], rfl, rfl⟩ rfl ?_
  cases c4 : netB n with
  | false =>
    rw [if_pos (.inl c4)] at hc
    simp (disch := omega) only [go_sem, ↓if_pos, ne_eq, ↓reduceIte]
    exact W_retC c14_ok (r := .tup [.agg [.int .i64 0, .isl true 0 []], .int .i64 1]) (σ' := σ) (resV_cellT rfl (upd_same _ _ _) rfl rfl) (Conv.drop _ (hσ _)) (bad 1 hc (by decide))
  | true =>
  have hR := netR_of c4
  simp (disch := omega) only [g5, hlen, hlen2, go_sem, ↓if_pos, ne_eq, ↓reduceIte]
  refine SRun.callR (l07Routes_ok (ex := ex2) hR hr) ⟨[], rfl, rfl⟩ rfl ?_
  cases c5 : rtsB n rs with
  | false =>
    rw [if_pos (.inr c5)] at hc
    simp (disch := omega) only [go_sem, ↓if_pos, ne_eq, ↓reduceIte]
    exact W_retC c14_ok (r := .tup [.agg [.int .i64 0, .isl true 0 []], .int .i64 1]) (σ' := σ) (resV_cellT rfl (upd_same _ _ _) rfl rfl) (Conv.drop _ (hσ _)) (bad 1 hc (by decide))
  | true =>
  rw [c4, c5, if_neg (by simp)] at hc
  obtain ⟨w1, w2, w3, w4⟩ := rtsB_w hR c5
  have hrt : ∀ x r : Int, (decide (0 ≤ x) && decide (x ≤ r - 1)) = routerB r x := fun _ _ => rfl
  by_cases c6 : down.length = n.links.length
  case' neg =>
    have d6 : (decide ¬ (down.length : Int) = n.links.length) = true := decide_eq_true (by omega)
    rw [if_pos (.inl c6)] at hc
    simp (disch := omega) only [g5, e1, d6, go_sem, ↓if_pos, ne_eq, ↓reduceIte]
    exact W_retC c14_ok (r := .tup [.agg [.int .i64 0, .isl true 0 []], .int .i64 5]) (σ' := σ) (resV_cellT rfl (upd_same _ _ _) rfl rfl) (Conv.drop _ (hσ _)) (bad 5 hc (by decide))
  have d6 : (decide ¬ (down.length : Int) = n.links.length) = false := decide_eq_false (by omega)
  simp (disch := omega) only [g5, e0, e1, d6, go_sem, ↓if_pos, ne_eq, ↓reduceIte]
  refine SRun.callR (l01In_ok from_ 0 ((n.routers.length : Int) - 1)) ⟨[], rfl, rfl⟩ rfl ?_
  rw [hrt]
  cases c7 : routerB n.routers.length from_ with
  | false =>
    rw [if_pos (.inr (.inl c7))] at hc
    simp (disch := omega) only [go_sem, ↓if_pos, ne_eq, ↓reduceIte]
    exact W_retC c14_ok (r := .tup [.agg [.int .i64 0, .isl true 0 []], .int .i64 5]) (σ' := σ) (resV_cellT rfl (upd_same _ _ _) rfl rfl) (Conv.drop _ (hσ _)) (bad 5 hc (by decide))
  | true =>
  simp (disch := omega) only [go_sem, ↓if_pos, ne_eq, ↓reduceIte]
  refine SRun.callR (l01In_ok port 0 15) ⟨[], rfl, rfl⟩ rfl ?_
  rw [hin]
  cases c8 : inB port 0 15 with
  | false =>
    rw [if_pos (.inr (.inr c8))] at hc
    simp (disch := omega) only [go_sem, ↓if_pos, ne_eq, ↓reduceIte]
    exact W_retC c14_ok (r := .tup [.agg [.int .i64 0, .isl true 0 []], .int .i64 5]) (σ' := σ) (resV_cellT rfl (upd_same _ _ _) rfl rfl) (Conv.drop _ (hσ _)) (bad 5 hc (by decide))
  | true =>
  rw [c7, c8, if_neg (by simp [c6])] at hc
  have hfr : 0 ≤ from_ ∧ from_ < rs.length := by simp only [routerB, Bool.and_eq_true, decide_eq_true_eq] at c7; omega
  have gg5 := g5 [.int .i64 0, .isl true 0 []]
  have gg10 := upd_same (upd σ b5 (netC n)) b10 [.int .i64 0, .isl true 0 []]
  have hhσ := hσ [.int .i64 0, .isl true 0 []]
  simp (disch := omega) only [go_sem, ↓if_pos, ne_eq, ↓reduceIte]
  generalize hs1 : upd (upd σ b5 (netC n)) b10 [.int .i64 0, .isl true 0 []] = s1 at *
  refine W_loopC (α := Nat) (fun i => i ≤ rs.length ∧ ∀ j, j < i → downOn n down rs j = false) (fun i => [(1, .isl ex 1 (bools down)), (2, .isl ex2 4 (rtsV rs)), (3, .int .i64 from_), (4, .int .i64 port), (5, .ptr b5 0), (10, .ptr b10 0), (12, .int .i64 (i : Nat))]) (fun _ => s1) (fun i => rs.length - i) 0 ⟨by omega, fun j hj => by omega⟩ (by simp (disch := omega) only [subT, Int.natCast_add, Int.cast_ofNat_Int, go_sem, ↓if_pos, ne_eq, ↓reduceIte] <;> (repeat' apply And.intro) <;> first | rfl | (congr 1; omega) | assumption) rfl ?_
  rintro i ⟨hi, hall⟩ ih
  simp (disch := omega) only [go_sem, ↓if_pos, ne_eq, ↓reduceIte]
  first | refine iteW_dec (fun h1 => ?_) (fun h1 => ?_) | refine iteW_of (fun h1 => ?_) (fun h1 => ?_)
  · have hdef : downOn n down rs i = (decide ((rs.getD i default).via ≥ 0) && down.getD (linkP n.links i (rs.getD i default).via).toNat false) := rfl
    have hw4 := w4 i (by omega)
    have hrt0 : ∀ r : Rt, (rtC r)[0]? = some (.int .i64 r.via) := fun _ => rfl
    have hlk := linkP_in n.links i (rs.getD i default).via
    simp (disch := omega) only [go_sem, ↓if_pos, ne_eq, ↓reduceIte]
    refine W_drawW ?_
    simp (disch := omega) only [hrt0, go_sem, ↓if_pos, ne_eq, ↓reduceIte]
    generalize hgv : (rs.getD i default).via = v at *
    by_cases c9 : v ≥ 0
    · have d9 : decide (v ≥ 0) = true := decide_eq_true c9
      have hw5 := hw4 (by omega)
      rw [d9, Bool.true_and] at hdef
      simp (disch := omega) only [d9, go_sem, ↓if_pos, ne_eq, ↓reduceIte]
      refine DRun.mixE rfl ?_
      simp (disch := omega) only [d9, gg5, e1, hrt0, hgv, go_sem, ↓if_pos, ne_eq, ↓reduceIte]
      refine DS.callG (ACalls.mono _ _ (l06Link_ok (σ := emp) (ex := false) (ls := n.links) (x := i) (y := v) (by omega)) fun _ _ h => h) ⟨[], rfl, rfl⟩ rfl rfl ?_
      rintro r s ⟨rfl, hs⟩ _
      obtain rfl := hs.symm
      simp (disch := omega) only [go_sem, ↓if_pos, ne_eq, ↓reduceIte]
      rw [← hdef]
      cases c10 : downOn n down rs i with
      | true =>
        rw [if_pos (any_range_t (i := i) (by omega) c10)] at hc
        simp (disch := omega) only [gg10, go_sem, ↓if_pos, ne_eq, ↓reduceIte]
        subst hs1
        exact W_retC c14_ok (r := .tup [.agg [.int .i64 0, .isl true 0 []], .int .i64 8]) (σ' := σ) (resV_cellT rfl (upd_same _ _ _) rfl rfl) (Conv.drop _ fun d x h => by rw [upd_upd]; exact hσ _ _ _ h) (bad 8 hc (by decide))
      | false =>
        simp (disch := omega) only [go_sem, ↓if_pos, ne_eq, ↓reduceIte]
        refine ih (i + 1) _ _ ⟨by omega, fun j hj => ?_⟩ (by omega) (by simp (disch := omega) only [subT, Int.natCast_add, Int.cast_ofNat_Int, go_sem, ↓if_pos, ne_eq, ↓reduceIte] <;> (repeat' apply And.intro) <;> first | rfl | (congr 1; omega) | assumption) rfl
        by_cases e : j = i
        · subst e; exact c10
        · exact hall j (by omega)
    · have d9 : decide (v ≥ 0) = false := decide_eq_false c9
      rw [d9, Bool.false_and] at hdef
      simp (disch := omega) only [d9, go_sem, ↓if_pos, ne_eq, ↓reduceIte]
      refine DRun.mixE rfl ?_
      simp (disch := omega) only [go_sem, ↓if_pos, ne_eq, ↓reduceIte]
      refine DS.skipG rfl rfl ?_
      simp (disch := omega) only [go_sem, ↓if_pos, ne_eq, ↓reduceIte]
      refine ih (i + 1) _ _ ⟨by omega, fun j hj => ?_⟩ (by omega) (by simp (disch := omega) only [subT, Int.natCast_add, Int.cast_ofNat_Int, go_sem, ↓if_pos, ne_eq, ↓reduceIte] <;> (repeat' apply And.intro) <;> first | rfl | (congr 1; omega) | assumption) rfl
      by_cases e : j = i
      · subst e; exact hdef
      · exact hall j (by omega)
  · have hil : i = rs.length := by omega
    subst hil
    rw [any_range_f hall, if_neg (by simp)] at hc
    rw [if_pos hc] at ha
    rw [ha, hc]
    simp (disch := omega) only [gg5, hlen, hlen2, go_sem, ↓if_pos, ne_eq, ↓reduceIte]
    refine SRun.callQ (l08Walk_own (ex := ex2) hn.filters (by omega) w2 w3 hfr) ⟨[], rfl, rfl⟩ rfl ?_
    rintro r s ⟨q, rfl, hp⟩
    simp (disch := omega) only [hp.get gg10, hp.one, hp.cells, go_sem, ↓if_pos, ne_eq, ↓reduceIte]
    have hp2 := hp.upd (c' := [.int .i64 (walkP n rs from_ port).1, q]) gg10
    obtain ⟨s3, f1, f2⟩ := hp2.less (σ := σ) fun d x h => by
      have e10 : d ≠ b10 := fun e => by subst e; rw [n10.2] at h; cases h
      rw [upd_ne _ _ e10]; exact hhσ _ _ h
    exact W_retC c14_ok (r := .tup [.agg [.int .i64 (walkP n rs from_ port).1, q], .int .i64 0]) (resV_cellT rfl (upd_same _ _ _) rfl rfl) (Conv.drop _ f1) ⟨q, rfl, f2⟩
set_option maxHeartbeats 1000000 in
theorem Forward_own {n : Net} {ex ex2 : Bool} {down : List Bool} {rs : List Rt} {from_ port : Int} (hn : NetLen n) (hd : down.length ≤ 1000000000000) (hr : rs.length ≤ 1000000000000) :
    ACalls Try.prog Γ 13 [netV n, .isl ex 1 (bools down), .isl ex2 4 (rtsV rs), .int .i64 from_, .int .i64 port] σ fun r s => ∃ q, r = .tup [.agg [.int .i64 (fwdA n down rs from_ port).1, q], .int .i64 (fwdCode n down rs from_ port)] ∧ PathO σ 1 (ints (fwdA n down rs from_ port).2) q s := by
  have hlen : (netC n).take 6 = netC n := rfl
  have hlen2 : (netC n).length = 6 := rfl
  have e0 : (netC n)[0]? = some (.isl false 1 (strsV n.routers)) := rfl
  have e1 : (netC n)[1]? = some (.isl false 3 (linksV n.links)) := rfl
  have hin : ∀ a b c, (decide (b ≤ a) && decide (a ≤ c)) = inB a b c := fun _ _ _ => rfl
  have l1 := hn.routers
  have l2 := hn.links
  have hc : fwdCode n down rs from_ port = if 4096 < down.length ∨ 4096 < rs.length then 2 else if netB n = false ∨ rtsB n rs = false then 1 else if down.length ≠ n.links.length ∨ routerB n.routers.length from_ = false ∨ inB port 0 15 = false then 5 else if (List.range rs.length).any (downOn n down rs) then 8 else 0 := rfl
  have ha : fwdA n down rs from_ port = if fwdCode n down rs from_ port = 0 then walkP n rs from_ port else (0, []) := rfl
  generalize fwdCode n down rs from_ port = code at *
  generalize fwdA n down rs from_ port = A at *
  refine acalls_W c13_ok rfl ?_
  simp (disch := omega) only [c13, netV, go_sem, ↓if_pos, ne_eq, ↓reduceIte]
  refine SRun.boxR (net_one n) ?_
  intro b5 hb5
  simp (disch := omega) only [go_sem, ↓if_pos, ne_eq, ↓reduceIte]
  refine SRun.allocR ?_
  intro b10 hb10
  have n10 := upd_none.1 hb10
  have n5 : b5 ≠ b10 := n10.1.symm
  have g5 : ∀ z, upd (upd σ b5 (netC n)) b10 z b5 = some (netC n) := fun z => by rw [upd_ne _ _ n5, upd_same]
  have hσ : ∀ z d x, σ d = some x → upd (upd σ b5 (netC n)) b10 z d = some x := fun z d x h => le_two hb5 n10.2 _ _ _ _ h
  have bad : ∀ c : Int, code = c → c ≠ 0 → ∃ q, V.tup [.agg [.int .i64 0, .isl true 0 []], .int .i64 c] = .tup [.agg [.int .i64 A.1, q], .int .i64 code] ∧ PathO σ 1 (ints A.2) q σ := fun c h1 h2 => by
    rw [if_neg (by rw [h1]; exact h2)] at ha
    rw [ha, h1]; exact ⟨_, rfl, .inr (OwnL.nil _ _)⟩
  simp (disch := omega) only [go_sem, ↓if_pos, ne_eq, ↓reduceIte]
  by_cases c1 : 4096 < down.length ∨ 4096 < rs.length
  · rw [if_pos c1] at hc
    by_cases c2 : (down.length : Int) > 4096
    · have d2 : decide ((down.length : Int) > 4096) = true := decide_eq_true c2
      simp (disch := omega) only [d2, go_sem, ↓if_pos, ne_eq, ↓reduceIte]
      exact W_retC c13_ok (r := .tup [.agg [.int .i64 0, .isl true 0 []], .int .i64 2]) (σ' := σ) (resV_cellT rfl (upd_same _ _ _) rfl rfl) (Conv.drop _ (hσ _)) (bad 2 hc (by decide))
    · have d2 : decide ((down.length : Int) > 4096) = false := decide_eq_false c2
      have d3 : decide ((rs.length : Int) > 4096) = true := decide_eq_true (by omega)
      simp (disch := omega) only [d2, d3, go_sem, ↓if_pos, ne_eq, ↓reduceIte]
      exact W_retC c13_ok (r := .tup [.agg [.int .i64 0, .isl true 0 []], .int .i64 2]) (σ' := σ) (resV_cellT rfl (upd_same _ _ _) rfl rfl) (Conv.drop _ (hσ _)) (bad 2 hc (by decide))
  rw [if_neg c1] at hc
  have d2 : decide ((down.length : Int) > 4096) = false := decide_eq_false (by omega)
  have d3 : decide ((rs.length : Int) > 4096) = false := decide_eq_false (by omega)
  simp (disch := omega) only [d2, d3, g5, hlen, hlen2, go_sem, ↓if_pos, ne_eq, ↓reduceIte]
  refine SRun.callR (isNet_ok hn) ⟨[], rfl, rfl⟩ rfl ?_
  cases c4 : netB n with
  | false =>
    rw [if_pos (.inl c4)] at hc
    simp (disch := omega) only [go_sem, ↓if_pos, ne_eq, ↓reduceIte]
    exact W_retC c13_ok (r := .tup [.agg [.int .i64 0, .isl true 0 []], .int .i64 1]) (σ' := σ) (resV_cellT rfl (upd_same _ _ _) rfl rfl) (Conv.drop _ (hσ _)) (bad 1 hc (by decide))
  | true =>
  have hR := netR_of c4
  simp (disch := omega) only [g5, hlen, hlen2, go_sem, ↓if_pos, ne_eq, ↓reduceIte]
  refine SRun.callR (areRoutes_ok (ex := ex2) hR hr) ⟨[], rfl, rfl⟩ rfl ?_
  cases c5 : rtsB n rs with
  | false =>
    rw [if_pos (.inr c5)] at hc
    simp (disch := omega) only [go_sem, ↓if_pos, ne_eq, ↓reduceIte]
    exact W_retC c13_ok (r := .tup [.agg [.int .i64 0, .isl true 0 []], .int .i64 1]) (σ' := σ) (resV_cellT rfl (upd_same _ _ _) rfl rfl) (Conv.drop _ (hσ _)) (bad 1 hc (by decide))
  | true =>
  rw [c4, c5, if_neg (by simp)] at hc
  obtain ⟨w1, w2, w3, w4⟩ := rtsB_w hR c5
  have hrt : ∀ x r : Int, (decide (0 ≤ x) && decide (x ≤ r - 1)) = routerB r x := fun _ _ => rfl
  by_cases c6 : down.length = n.links.length
  case' neg =>
    have d6 : (decide ¬ (down.length : Int) = n.links.length) = true := decide_eq_true (by omega)
    rw [if_pos (.inl c6)] at hc
    simp (disch := omega) only [g5, e1, d6, go_sem, ↓if_pos, ne_eq, ↓reduceIte]
    exact W_retC c13_ok (r := .tup [.agg [.int .i64 0, .isl true 0 []], .int .i64 5]) (σ' := σ) (resV_cellT rfl (upd_same _ _ _) rfl rfl) (Conv.drop _ (hσ _)) (bad 5 hc (by decide))
  have d6 : (decide ¬ (down.length : Int) = n.links.length) = false := decide_eq_false (by omega)
  simp (disch := omega) only [g5, e0, e1, d6, hlen, hlen2, go_sem, ↓if_pos, ne_eq, ↓reduceIte]
  refine SRun.callR (isRouter_ok l1) ⟨[], rfl, rfl⟩ rfl ?_
  cases c7 : routerB n.routers.length from_ with
  | false =>
    rw [if_pos (.inr (.inl c7))] at hc
    simp (disch := omega) only [go_sem, ↓if_pos, ne_eq, ↓reduceIte]
    exact W_retC c13_ok (r := .tup [.agg [.int .i64 0, .isl true 0 []], .int .i64 5]) (σ' := σ) (resV_cellT rfl (upd_same _ _ _) rfl rfl) (Conv.drop _ (hσ _)) (bad 5 hc (by decide))
  | true =>
  simp (disch := omega) only [go_sem, ↓if_pos, ne_eq, ↓reduceIte]
  refine SRun.callR (within_ok port 0 15) ⟨[], rfl, rfl⟩ rfl ?_
  rw [hin]
  cases c8 : inB port 0 15 with
  | false =>
    rw [if_pos (.inr (.inr c8))] at hc
    simp (disch := omega) only [go_sem, ↓if_pos, ne_eq, ↓reduceIte]
    exact W_retC c13_ok (r := .tup [.agg [.int .i64 0, .isl true 0 []], .int .i64 5]) (σ' := σ) (resV_cellT rfl (upd_same _ _ _) rfl rfl) (Conv.drop _ (hσ _)) (bad 5 hc (by decide))
  | true =>
  rw [c7, c8, if_neg (by simp [c6])] at hc
  have hfr : 0 ≤ from_ ∧ from_ < rs.length := by simp only [routerB, Bool.and_eq_true, decide_eq_true_eq] at c7; omega
  have gg5 := g5 [.int .i64 0, .isl true 0 []]
  have gg10 := upd_same (upd σ b5 (netC n)) b10 [.int .i64 0, .isl true 0 []]
  have hhσ := hσ [.int .i64 0, .isl true 0 []]
  simp (disch := omega) only [go_sem, ↓if_pos, ne_eq, ↓reduceIte]
  generalize hs1 : upd (upd σ b5 (netC n)) b10 [.int .i64 0, .isl true 0 []] = s1 at *
  refine W_loopC (α := Nat × St) (fun p => p.1 ≤ rs.length ∧ (∀ d x, s1 d = some x → p.2 d = some x) ∧ ∀ j, j < p.1 → downOn n down rs j = false) (fun p => [(1, .isl ex 1 (bools down)), (2, .isl ex2 4 (rtsV rs)), (3, .int .i64 from_), (4, .int .i64 port), (5, .ptr b5 0), (10, .ptr b10 0), (54, .isl ex2 4 (rtsV rs)), (55, .int .i64 rs.length), (56, .int .i64 (p.1 : Nat))]) (fun p => p.2) (fun p => rs.length - p.1) (0, s1) ⟨by simp, fun _ _ h => h, fun j hj => by simp at hj⟩ (by simp (disch := omega) only [subT, Int.natCast_add, Int.cast_ofNat_Int, go_sem, ↓if_pos, ne_eq, ↓reduceIte] <;> (repeat' apply And.intro) <;> first | rfl | (congr 1; omega) | assumption) rfl ?_
  rintro ⟨i, s⟩ ⟨hi, hle, hall⟩ ih
  dsimp only at hi hle hall
  have gg5' := hle _ _ gg5
  have gg10' := hle _ _ gg10
  simp (disch := omega) only [go_sem, ↓if_pos, ne_eq, ↓reduceIte]
  first | refine iteW_dec (fun h1 => ?_) (fun h1 => ?_) | refine iteW_of (fun h1 => ?_) (fun h1 => ?_)
  · have hdef : downOn n down rs i = (decide ((rs.getD i default).via ≥ 0) && down.getD (linkP n.links i (rs.getD i default).via).toNat false) := rfl
    have hw4 := w4 i (by omega)
    have hlk := linkP_in n.links i (rs.getD i default).via
    have hL := fun Γ σ v => linkOf_ok (Γ := Γ) (σ := σ) (n := n) (x := i) (y := v) (by omega)
    simp (disch := omega) only [go_sem, ↓if_pos, ne_eq, ↓reduceIte]
    generalize rs.getD i default = x at *
    obtain ⟨v, pp, pl, mk⟩ := x
    have hxc : rtC ⟨v, pp, pl, mk⟩ = [.int .i64 v, .int .i64 pp, .int .i64 pl, .bool mk] := rfl
    dsimp only at hdef hw4 hlk
    refine SRun.allocR ?_
    intro b13 hb13
    have n513 : b5 ≠ b13 := fun e => by subst e; rw [gg5'] at hb13; cases hb13
    have n1013 : b10 ≠ b13 := fun e => by subst e; rw [gg10'] at hb13; cases hb13
    have hle3 : ∀ z, ∀ d y, s1 d = some y → upd s b13 z d = some y := fun z d y h => le_upd hb13 _ _ (hle _ _ h)
    by_cases c9 : v ≥ 0
    · have d9 : decide (v ≥ 0) = true := decide_eq_true c9
      have hw5 := hw4 (by omega)
      rw [d9, Bool.true_and] at hdef
      simp (disch := omega) only [d9, hxc, gg5', n513, hlen, hlen2, go_sem, ↓if_pos, ne_eq, ↓reduceIte]
      refine SRun.callR (hL _ _ _) ⟨[], rfl, rfl⟩ rfl ?_
      simp (disch := omega) only [go_sem, ↓if_pos, ne_eq, ↓reduceIte]
      rw [← hdef]
      cases c10 : downOn n down rs i with
      | true =>
        rw [if_pos (any_range_t (i := i) (by omega) c10)] at hc
        simp (disch := omega) only [gg10', n1013, go_sem, ↓if_pos, ne_eq, ↓reduceIte]
        refine W_retC c13_ok (r := .tup [.agg [.int .i64 0, .isl true 0 []], .int .i64 8]) (σ' := σ) (resV_cellT rfl (upd_same _ _ _) rfl rfl) (Conv.drop _ fun d x h => ?_) (bad 8 hc (by decide))
        have e10 : d ≠ b10 := fun e => by subst e; rw [n10.2] at h; cases h
        rw [upd_ne _ _ e10]; exact hle3 _ _ _ (hhσ _ _ h)
      | false =>
        simp (disch := omega) only [go_sem, ↓if_pos, ne_eq, ↓reduceIte]
        refine ih (i + 1, _) _ _ ⟨by simp only; omega, hle3 _, fun j hj => ?_⟩ (by simp only; omega) (by simp (disch := omega) only [subT, Int.natCast_add, Int.cast_ofNat_Int, go_sem, ↓if_pos, ne_eq, ↓reduceIte] <;> (repeat' apply And.intro) <;> first | rfl | (congr 1; omega) | assumption) rfl
        by_cases e : j = i
        · subst e; exact c10
        · exact hall j (by simp only at hj; omega)
    · have d9 : decide (v ≥ 0) = false := decide_eq_false c9
      rw [d9, Bool.false_and] at hdef
      simp (disch := omega) only [d9, hxc, go_sem, ↓if_pos, ne_eq, ↓reduceIte]
      refine ih (i + 1, _) _ _ ⟨by simp only; omega, hle3 _, fun j hj => ?_⟩ (by simp only; omega) (by simp (disch := omega) only [subT, Int.natCast_add, Int.cast_ofNat_Int, go_sem, ↓if_pos, ne_eq, ↓reduceIte] <;> (repeat' apply And.intro) <;> first | rfl | (congr 1; omega) | assumption) rfl
      by_cases e : j = i
      · subst e; exact hdef
      · exact hall j (by simp only at hj; omega)
  · have hil : i = rs.length := by omega
    subst hil
    rw [any_range_f hall, if_neg (by simp)] at hc
    rw [if_pos hc] at ha
    rw [ha, hc]
    simp (disch := omega) only [gg5', hlen, hlen2, go_sem, ↓if_pos, ne_eq, ↓reduceIte]
    refine SRun.callQ (forward_own (ex := ex2) hn.filters (by omega) w2 w3 hfr w1) ⟨[], rfl, rfl⟩ rfl ?_
    rintro r s ⟨q, rfl, hp⟩
    simp (disch := omega) only [hp.get gg10', hp.one, hp.cells, go_sem, ↓if_pos, ne_eq, ↓reduceIte]
    have hp2 := hp.upd (c' := [.int .i64 (walkP n rs from_ port).1, q]) gg10'
    obtain ⟨s3, f1, f2⟩ := hp2.less (σ := σ) fun d x h => by
      have e10 : d ≠ b10 := fun e => by subst e; rw [n10.2] at h; cases h
      rw [upd_ne _ _ e10]; exact hle _ _ (hhσ _ _ h)
    exact W_retC c13_ok (r := .tup [.agg [.int .i64 (walkP n rs from_ port).1, q], .int .i64 0]) (resV_cellT rfl (upd_same _ _ _) rfl rfl) (Conv.drop _ f1) ⟨q, rfl, f2⟩
end Go.Proofs.Ytabelcohkpmpnaa.Lg
