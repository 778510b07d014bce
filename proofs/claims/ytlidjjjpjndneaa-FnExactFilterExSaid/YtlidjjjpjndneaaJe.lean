/- FilterEx: what it answers is owned. Printed by mkJe.py. -/
import Derived.Test.YtlidjjjpjndneaaJd
set_option linter.unusedSimpArgs false
set_option linter.unusedVariables false
namespace Go.Proofs.Ytlidjjjpjndneaa.Lg
open Go
attribute [local irreducible] SRun DS DRun
variable {Γ : St} {σ σ0 : St}
/-- An expression that is answered, new and owned, with a code. -/
def TreeR (σ : St) (e : Ex) (c : Int) (r : V) (s : St) : Prop := ∃ q bs, r = .tup [.agg [.int .i64 (exK e), .int .i64 (exN e), q], .int .i64 c] ∧ kidsAt s e q bs ∧ bs.Nodup ∧ (∀ b ∈ bs, σ b = none) ∧ ∀ d x, σ d = some x → s d = some x
theorem TreeR.zero {s : St} {c : Int} (h : ∀ d x, σ d = some x → s d = some x) : TreeR σ zeroE c (.tup [.agg [.int .i64 0, .int .i64 0, .isl true 0 []], .int .i64 c]) s :=
  ⟨.isl true 0 [], [], rfl, by unfold zeroE; rw [kidsAt_mk]; exact .inl ⟨rfl, ⟨_, rfl⟩, rfl⟩, List.nodup_nil, (fun b hb => by cases hb), h⟩
def exRes (e : Ex) : Ex × Int := bif okE e then (e, 0) else (zeroE, 11)
def filRes (n : Net) (a t : Int) : Ex × Int := if !netB n then (zeroE, 1) else if !(routerB n.routers.length a && routerB n.routers.length t) then (zeroE, 5) else exRes (filE a t n.filters)
theorem fEx_res (n : Net) (a t : Int) : fEx n a t = .tup [exV (filRes n a t).1, .int .i64 (filRes n a t).2] := by
  unfold fEx filRes
  split
  · rfl
  split
  · rfl
  unfold exRes exA
  cases okE (filE a t n.filters) <;> rfl
theorem checkedEx_own {e : Ex} (hsz : sizeE e ≤ 1000000) : ACalls Try.prog Γ 112 [exV e] σ (TreeR σ (exRes e).1 (exRes e).2) := by
  refine acalls_W c112_ok rfl ?_
  simp (disch := omega) only [c112, go_sem]
  refine SRun.boxR (by show ∀ c ∈ (exV e).cells, _; rw [cells_exV]; exact exC_one e) ?_
  intro b1 hb1
  simp (disch := omega) only [go_sem]
  refine SRun.allocR ?_
  intro b2 hb2
  have n21 := (upd_none.1 hb2).1
  have g1 : upd (upd σ b1 (exC e)) b2 [.int .i64 0, .int .i64 0, .isl true 0 []] b1 = some (exC e) := by rw [upd_ne _ _ n21.symm, upd_same]
  have g2 := upd_same (upd σ b1 (exC e)) b2 [.int .i64 0, .int .i64 0, .isl true 0 []]
  have hσ : ∀ d x, σ d = some x → d ≠ b2 ∧ upd (upd σ b1 (exC e)) b2 [.int .i64 0, .int .i64 0, .isl true 0 []] d = some x := fun d x h => ⟨fun e => by (subst e; rw [(upd_none.1 hb2).2] at h; cases h), le_upd hb2 _ _ (le_upd hb1 _ _ h)⟩
  generalize upd (upd σ b1 (exC e)) b2 [.int .i64 0, .int .i64 0, .isl true 0 []] = s1 at *
  simp (disch := omega) only [g1, go_sem]
  refine SRun.callR (isEx_ok (e := e) hsz) ⟨[], rfl, rfl⟩ rfl ?_
  simp (disch := omega) only [List.getD_cons_zero, List.getD_cons_succ, go_sem]
  have hA := exRes.eq_1 e
  have hσn : ∀ d, s1 d = none → σ d = none := fun d hd => none_of (fun d x h => (hσ d x h).2) d hd
  generalize okE e = q at *
  cases q with
  | false =>
    rw [cond_false] at hA
    rw [hA]
    simp (disch := omega) only [g2, go_sem]
    exact W_retC c112_ok (r := .tup [.agg [.int .i64 0, .int .i64 0, .isl true 0 []], .int .i64 11]) (resV_2E rfl (upd_same _ _ _) rfl) ⟨fun _ _ h => h, .refl _⟩ (TreeR.zero fun d x hd => by rw [upd_ne _ _ (hσ d x hd).1]; exact (hσ d x hd).2)
  | true =>
    rw [cond_true] at hA
    rw [hA]
    simp (disch := omega) only [g1, go_sem]
    refine SRun.callQ (cloneEx_own e hsz) ⟨[], rfl, rfl⟩ rfl ?_
    rintro r s9 ⟨q, bs, rfl, hk9, hnd9, hfr9, hle9⟩
    have g29 := hle9 _ _ g2
    have hq1 := hk9.one.1
    simp (disch := omega) only [g29, hq1, go_sem]
    have hb2n : ∀ d ∈ bs, d ≠ b2 := fun d hd e => by have := hfr9 d hd; rw [e, g2] at this; cases this
    refine W_retC c112_ok (r := .tup [.agg [.int .i64 (exK e), .int .i64 (exN e), q], .int .i64 0]) (resV_2E rfl (upd_same _ _ _) rfl) ⟨fun _ _ h => h, .refl _⟩ ⟨q, bs, rfl, kidsAt.more e q bs hk9 fun d hd x hx => by rw [upd_ne _ _ (hb2n d hd)]; exact hx, hnd9, fun d hd => hσn d (hfr9 d hd), fun d x hd => ?_⟩
    rw [upd_ne _ _ (hσ d x hd).1]; exact hle9 _ _ (hσ d x hd).2
set_option maxHeartbeats 2000000 in
theorem FilterEx_own {n : Net} {a t : Int} (hn : NetLen n) : ACalls Try.prog Γ 43 [netV n, .int .i64 a, .int .i64 t] σ (TreeR σ (filRes n a t).1 (filRes n a t).2) := by
  have hlen : (netC n).take 6 = netC n := rfl
  have hlen2 : (netC n).length = 6 := rfl
  have e5 : (netC n)[5]? = some (.isl false 4 (filsV n.filters)) := rfl
  have l1 := hn.routers
  have l4 := hn.filters
  have hdef : filRes n a t = (if !netB n then (zeroE, 1) else if !(routerB n.routers.length a && routerB n.routers.length t) then (zeroE, 5) else exRes (filE a t n.filters)) := rfl
  have hbn : netB n = true → n.filters.length ≤ 6 := fun h => by
    unfold netB at h
    simp only [Bool.and_eq_true, decide_eq_true_eq] at h
    exact h.1.1.1.1.1.1.1.2
  refine acalls_W c43_ok rfl ?_
  simp (disch := omega) only [c43, netV, go_sem]
  refine SRun.boxR (net_one n) ?_
  intro b3 hb3
  simp (disch := omega) only [go_sem]
  refine SRun.allocR ?_
  intro b6 hb6
  have n63 := (upd_none.1 hb6).1
  have g3 : upd (upd σ b3 (netC n)) b6 [.int .i64 0, .int .i64 0, .isl true 0 []] b3 = some (netC n) := by rw [upd_ne _ _ n63.symm, upd_same]
  have g6 := upd_same (upd σ b3 (netC n)) b6 [.int .i64 0, .int .i64 0, .isl true 0 []]
  have hσ : ∀ d x, σ d = some x → d ≠ b6 ∧ upd (upd σ b3 (netC n)) b6 [.int .i64 0, .int .i64 0, .isl true 0 []] d = some x := fun d x h => ⟨fun e => by (subst e; rw [(upd_none.1 hb6).2] at h; cases h), le_upd hb6 _ _ (le_upd hb3 _ _ h)⟩
  simp (disch := omega) only [go_sem]
  generalize upd (upd σ b3 (netC n)) b6 [.int .i64 0, .int .i64 0, .isl true 0 []] = s1 at *
  simp (disch := omega) only [g3, hlen, hlen2, go_sem]
  refine SRun.callR (isNet_ok hn) ⟨[], rfl, rfl⟩ rfl ?_
  have zero : ∀ (s : St) (c : Int), (∀ d x, σ d = some x → d ≠ b6 ∧ s d = some x) → TreeR σ zeroE c (.tup [.agg [.int .i64 0, .int .i64 0, .isl true 0 []], .int .i64 c]) (upd s b6 [.int .i64 0, .int .i64 0, .isl true 0 []]) := fun s c h =>
    TreeR.zero fun d x hd => by rw [upd_ne _ _ (h d x hd).1]; exact (h d x hd).2
  generalize netB n = q1 at *
  cases q1 with
  | false =>
    rw [hdef]
    simp (disch := omega) only [g6, go_sem]
    exact W_retC c43_ok (r := .tup [.agg [.int .i64 0, .int .i64 0, .isl true 0 []], .int .i64 1]) (resV_2E rfl (upd_same _ _ _) rfl) ⟨fun _ _ h => h, .refl _⟩ (zero s1 1 hσ)
  | true =>
  have hf6 := hbn rfl
  simp (disch := omega) only [g3, hlen, hlen2, go_sem]
  refine SRun.callR (isRouter_ok (n := n) (x := a) l1) ⟨[], rfl, rfl⟩ rfl ?_
  generalize routerB n.routers.length a = r1 at *
  cases r1 with
  | false =>
    rw [hdef]
    simp (disch := omega) only [g6, go_sem]
    exact W_retC c43_ok (r := .tup [.agg [.int .i64 0, .int .i64 0, .isl true 0 []], .int .i64 5]) (resV_2E rfl (upd_same _ _ _) rfl) ⟨fun _ _ h => h, .refl _⟩ (zero s1 5 hσ)
  | true =>
  simp (disch := omega) only [g3, hlen, hlen2, go_sem]
  refine SRun.callR (isRouter_ok (n := n) (x := t) l1) ⟨[], rfl, rfl⟩ rfl ?_
  generalize routerB n.routers.length t = r2 at *
  cases r2 with
  | false =>
    rw [hdef]
    simp (disch := omega) only [g6, go_sem]
    exact W_retC c43_ok (r := .tup [.agg [.int .i64 0, .int .i64 0, .isl true 0 []], .int .i64 5]) (resV_2E rfl (upd_same _ _ _) rfl) ⟨fun _ _ h => h, .refl _⟩ (zero s1 5 hσ)
  | true =>
  have hdef2 : filRes n a t = exRes (filE a t n.filters) := hdef
  rw [hdef2]
  clear hdef hdef2
  simp (disch := omega) only [go_sem]
  refine W_loopC (α := Nat × V × St) (fun p => p.1 ≤ 4 ∧ RowF s1 3 (exsV ((List.range p.1).map fun i => varE (i : Nat))) p.2.1 p.2.2) (fun p => [(1, .int .i64 a), (2, .int .i64 t), (3, .ptr b3 0), (6, .ptr b6 0), (8, p.2.1), (32, .int .i64 (p.1 : Nat))]) (fun p => p.2.2) (fun p => 4 - p.1) (0, .isl true 0 [], s1) ⟨by simp, RowF.nil⟩ (by simp (disch := omega) only [subT, Int.natCast_add, Int.cast_ofNat_Int, go_sem] <;> (repeat' apply And.intro) <;> first | rfl | (congr 1; omega) | assumption) rfl ?_
  rintro ⟨i, tt, s⟩ ⟨hi, ho⟩ ih
  dsimp only at hi ho
  simp (disch := omega) only [go_sem]
  first | refine iteW_dec (fun hq => ?_) (fun hq => ?_) | refine iteW_of (fun hq => ?_) (fun hq => ?_)
  · obtain ⟨ys, hy1, hy2, hy3⟩ := ho
    rw [exsV_len, List.length_map, List.length_range] at hy2
    simp (disch := omega) only [go_sem]
    refine SRun.appL hy1 rfl (rawVar_ok _) (by simp only [List.length_singleton]; omega) ?_
    intro t2 s2 ho2
    have hrow : RowF s1 3 (exsV ((List.range (i + 1)).map fun i => varE (i : Nat))) t2 s2 := by
      refine ⟨_, ho2, by simp [exsV_len, hy2], fun σ σ' => ?_⟩
      rw [flat_app1, show (List.range (i + 1)).map (fun i => varE (i : Nat)) = (List.range i).map (fun i => varE (i : Nat)) ++ [varE (i : Nat)] by simp [List.range_succ], ← exs_app, flat_app1]
      exact frzL_app (hy3 _ _) (rawVar_frz _)
    simp (disch := omega) only [go_sem]
    exact ih (i + 1, t2, s2) _ _ ⟨by simp only; omega, hrow⟩ (by simp only; omega) (by simp (disch := omega) only [subT, Int.natCast_add, Int.cast_ofNat_Int, go_sem] <;> (repeat' apply And.intro) <;> first | rfl | (congr 1; omega) | assumption) rfl
  · have hi4 : i = 4 := by omega
    subst hi4
    have hfr : Frz s s1 tt (.isl false 3 (exsV port4)) := ho.frz (exsV_ok _) (fun _ _ => rfl) (fun _ h => h)
    obtain ⟨ys, hy1, hy2, hy3⟩ := ho
    clear ih hq
    simp (disch := omega) only [go_sem]
    refine SRun.freeze (T' := [(1, .int .i64 a), (2, .int .i64 t), (3, .ptr b3 0), (6, .ptr b6 0), (8, .isl false 3 (exsV port4))]) (σ' := s1) hy1.le ⟨.refl _, .refl _, .refl _, .refl _, hfr, trivial⟩ ?_
    clear hy1 hy2 hy3 hfr
    refine SRun.callR (constEx_ok (n := 0)) ⟨[], rfl, rfl⟩ rfl ?_
    simp (disch := omega) only [List.getD_cons_zero, List.getD_cons_succ, go_sem]
    refine SRun.allocR ?_
    intro b10 hb10
    have n103 : b10 ≠ b3 := fun e => by subst e; rw [g3] at hb10; cases hb10
    have n106 : b10 ≠ b6 := fun e => by subst e; rw [g6] at hb10; cases hb10
    have h3 := le_upd (cs := exC (constE 0)) hb10 _ _ g3
    have h6 := le_upd (cs := exC (constE 0)) hb10 _ _ g6
    have h10 := upd_same s1 b10 (exC (constE 0))
    have hσ2 : ∀ d x, σ d = some x → d ≠ b6 ∧ d ≠ b10 ∧ upd s1 b10 (exC (constE 0)) d = some x := fun d x h => ⟨(hσ d x h).1, fun e => by (subst e; rw [(hσ _ _ h).2] at hb10; cases hb10), le_upd hb10 _ _ (hσ d x h).2⟩
    simp (disch := omega) only [go_sem]
    generalize upd s1 b10 (exC (constE 0)) = s2 at *
    simp (disch := omega) only [g3, e5, go_sem]
    have hf0 : filE a t (n.filters.take 0) = constE 0 := rfl
    rw [← hf0] at h10
    refine W_loopC (α := Nat × St) (fun p => p.1 ≤ n.filters.length ∧ p.2 b3 = some (netC n) ∧ p.2 b6 = some [.int .i64 0, .int .i64 0, .isl true 0 []] ∧ p.2 b10 = some (exC (filE a t (n.filters.take p.1))) ∧ ∀ d x, σ d = some x → p.2 d = some x) (fun p => [(1, .int .i64 a), (2, .int .i64 t), (3, .ptr b3 0), (6, .ptr b6 0), (8, .isl false 3 (exsV port4)), (10, .ptr b10 0), (43, .isl false 4 (filsV n.filters)), (44, .int .i64 n.filters.length), (45, .int .i64 (p.1 : Nat))]) (fun p => p.2) (fun p => n.filters.length - p.1) (0, s2) ⟨by omega, h3, h6, h10, fun d x h => (hσ2 d x h).2.2⟩ (by simp (disch := omega) only [subT, Int.natCast_add, Int.cast_ofNat_Int, go_sem] <;> (repeat' apply And.intro) <;> first | rfl | (congr 1; omega) | assumption) rfl ?_
    clear h3 h6 h10 hf0
    rintro ⟨k, s3⟩ ⟨hk, h3, h6, h10, hle⟩ ih
    dsimp only at hk h3 h6 h10 hle
    simp (disch := omega) only [go_sem]
    first | refine iteW_dec (fun hq => ?_) (fun hq => ?_) | refine iteW_of (fun hq => ?_) (fun hq => ?_)
    · have hsucc := filE_succ (a := a) (t := t) (fs := n.filters) (i := k) (by omega)
      simp (disch := omega) only [go_sem]
      generalize n.filters.getD k default = x at *
      have hstep : stepE a t (filE a t (n.filters.take k)) x = bif decide (x.at_ = a) && decide (x.to = t) then nodeE 5 [filE a t (n.filters.take k), nodeE 4 [nodeE 3 [lessE port4 (bits4 x.low) 4], nodeE 3 [lessE (bits4 x.high) port4 4]]] else filE a t (n.filters.take k) := rfl
      rw [hstep] at hsucc
      generalize filE a t (n.filters.take k) = e at *
      refine SRun.allocR ?_
      intro b12 hb12
      have hfc : filC x = [.int .i64 x.at_, .int .i64 x.to, .int .i64 x.low, .int .i64 x.high] := rfl
      have k3 := le_upd (cs := filC x) hb12 _ _ h3
      have k6 := le_upd (cs := filC x) hb12 _ _ h6
      have k10 := le_upd (cs := filC x) hb12 _ _ h10
      have kσ : ∀ d y, σ d = some y → upd s3 b12 (filC x) d = some y := fun d y h => le_upd hb12 _ _ (hle d y h)
      have k12 := upd_same s3 b12 (filC x)
      rw [hfc] at k3 k6 k10 kσ k12
      generalize hp1 : decide (x.at_ = a) = p1 at *
      generalize hp2 : decide (x.to = t) = p2 at *
      cases p1 with
      | false =>
        cases p2
        all_goals
          simp (disch := omega) only [hfc, hp1, hp2, go_sem]
          exact ih (k + 1, upd s3 b12 [.int .i64 x.at_, .int .i64 x.to, .int .i64 x.low, .int .i64 x.high]) _ _ ⟨by simp only; omega, k3, k6, by dsimp only; rw [hsucc]; exact k10, kσ⟩ (by simp only; omega) (by simp (disch := omega) only [subT, Int.natCast_add, Int.cast_ofNat_Int, go_sem] <;> (repeat' apply And.intro) <;> first | rfl | (congr 1; omega) | assumption) rfl
      | true =>
      cases p2 with
      | false =>
        simp (disch := omega) only [hfc, hp1, hp2, go_sem]
        exact ih (k + 1, upd s3 b12 [.int .i64 x.at_, .int .i64 x.to, .int .i64 x.low, .int .i64 x.high]) _ _ ⟨by simp only; omega, k3, k6, by dsimp only; rw [hsucc]; exact k10, kσ⟩ (by simp only; omega) (by simp (disch := omega) only [subT, Int.natCast_add, Int.cast_ofNat_Int, go_sem] <;> (repeat' apply And.intro) <;> first | rfl | (congr 1; omega) | assumption) rfl
      | true =>
        simp (disch := omega) only [hfc, hp1, hp2, go_sem]
        generalize upd s3 b12 [.int .i64 x.at_, .int .i64 x.to, .int .i64 x.low, .int .i64 x.high] = s4 at *
        rw [W_draw]
        refine DRun.start (DRun.mixNR (fun T s' => ∃ b13 b14, s4 b13 = none ∧ s4 b14 = none ∧ b13 ≠ b14 ∧ s' = upd (upd emp b13 [.int .i64 0, .int .i64 0, .isl true 0 []]) b14 [.int .i64 0, .int .i64 0, .isl true 0 []] ∧ look T 1 = .int .i64 a ∧ look T 2 = .int .i64 t ∧ look T 3 = .ptr b3 0 ∧ look T 6 = .ptr b6 0 ∧ look T 8 = .isl false 3 (exsV port4) ∧ look T 10 = .ptr b10 0 ∧ look T 43 = .isl false 4 (filsV n.filters) ∧ look T 44 = .int .i64 n.filters.length ∧ look T 45 = .int .i64 (k : Nat) ∧ look T 13 = .ptr b13 0 ∧ look T 14 = .ptr b14 0 ∧ look T 63 = exV (lessE port4 (bits4 x.low) 4) ∧ look T 68 = exV (lessE (bits4 x.high) port4 4)) rfl ?_ ?_)
        · simp (disch := omega) only [k12, go_sem]
          refine DS.wr2 (WrF.call (constBits_ok (n := x.low) (m := 4) (by omega)) ⟨[], rfl, rfl⟩) rfl ?_ ?_
          · rintro r s ⟨rfl, hs⟩ hd
            obtain rfl := hs.symm
            simp (disch := omega) only [go_sem]
            refine DS.wr2 (WrF.call (lessEx_ok (ea := false) (eb := false) (us := port4) (ws := bits4 x.low) (by decide) rfl) ⟨[], rfl, rfl⟩) rfl ?_ ?_
            · rintro r s ⟨rfl, hs⟩ hd
              obtain rfl := hs.symm
              simp (disch := omega) only [go_sem]
              refine DS.wr2 (WrF.call (constBits_ok (n := x.high) (m := 4) (by omega)) ⟨[], rfl, rfl⟩) rfl ?_ ?_
              · rintro r s ⟨rfl, hs⟩ hd
                obtain rfl := hs.symm
                simp (disch := omega) only [go_sem]
                refine DS.wr2 (WrF.call (lessEx_ok (ea := false) (eb := false) (us := bits4 x.high) (ws := port4) (by simp [bits4]) rfl) ⟨[], rfl, rfl⟩) rfl ?_ ?_
                · rintro r s ⟨rfl, hs⟩ hd
                  obtain rfl := hs.symm
                  simp (disch := omega) only [go_sem]
                  refine DS.wr2 WrF.alloc rfl ?_ ?_
                  · rintro _ s9 ⟨b13, hbA, rfl, rfl⟩ hdA
                    simp (disch := omega) only [go_sem]
                    refine DS.wrQ WrF.alloc rfl ?_
                    rintro _ s9 ⟨b14, hbB, rfl, rfl⟩ hdB
                    have huB := (upd_none.1 hbB).1
                    exact ⟨b13, b14, disj_new hdA, (hdB b14).resolve_left (by rw [upd_same]; simp), huB.symm, rfl, rfl, rfl, rfl, rfl, rfl, rfl, rfl, rfl, rfl, rfl, rfl, rfl, rfl⟩
                  · skip
                    refine DS.wrQ WrF.alloc rfl ?_
                    rintro _ s9 ⟨b14, hbA, rfl, rfl⟩ hdA
                    simp (disch := omega) only [go_sem]
                    refine DS.wrQ WrF.alloc rfl ?_
                    rintro _ s9 ⟨b13, hbB, rfl, rfl⟩ hdB
                    have huB := (upd_none.1 hbB).1
                    exact ⟨b13, b14, (hdB b13).resolve_left (by rw [upd_same]; simp), disj_new hdA, huB, upd_comm _ huB.symm _ _, rfl, rfl, rfl, rfl, rfl, rfl, rfl, rfl, rfl, rfl, rfl, rfl, rfl⟩
                · skip
                  refine DS.wr2 WrF.alloc rfl ?_ ?_
                  · rintro _ s9 ⟨b13, hbA, rfl, rfl⟩ hdA
                    simp (disch := omega) only [go_sem]
                    refine DS.wr2 (WrF.call (lessEx_ok (ea := false) (eb := false) (us := bits4 x.high) (ws := port4) (by simp [bits4]) rfl) ⟨[], rfl, rfl⟩) rfl ?_ ?_
                    · rintro r s ⟨rfl, hs⟩ hd
                      obtain rfl := hs.symm
                      simp (disch := omega) only [go_sem]
                      refine DS.wrQ WrF.alloc rfl ?_
                      rintro _ s9 ⟨b14, hbB, rfl, rfl⟩ hdB
                      have huB := (upd_none.1 hbB).1
                      exact ⟨b13, b14, disj_new hdA, (hdB b14).resolve_left (by rw [upd_same]; simp), huB.symm, rfl, rfl, rfl, rfl, rfl, rfl, rfl, rfl, rfl, rfl, rfl, rfl, rfl, rfl⟩
                    · skip
                      refine DS.wrQ WrF.alloc rfl ?_
                      rintro _ s9 ⟨b14, hbB, rfl, rfl⟩ hdB
                      have huB := (upd_none.1 hbB).1
                      simp (disch := omega) only [go_sem]
                      refine DS.wrQ (WrF.call (lessEx_ok (ea := false) (eb := false) (us := bits4 x.high) (ws := port4) (by simp [bits4]) rfl) ⟨[], rfl, rfl⟩) rfl ?_
                      rintro r s ⟨rfl, hs⟩ hd
                      obtain rfl := hs.symm
                      exact ⟨b13, b14, disj_new hdA, (hdB b14).resolve_left (by rw [upd_same]; simp), huB.symm, rfl, rfl, rfl, rfl, rfl, rfl, rfl, rfl, rfl, rfl, rfl, rfl, rfl, rfl⟩
                  · skip
                    refine DS.wrQ WrF.alloc rfl ?_
                    rintro _ s9 ⟨b14, hbA, rfl, rfl⟩ hdA
                    simp (disch := omega) only [go_sem]
                    refine DS.wr2 (WrF.call (lessEx_ok (ea := false) (eb := false) (us := bits4 x.high) (ws := port4) (by simp [bits4]) rfl) ⟨[], rfl, rfl⟩) rfl ?_ ?_
                    · rintro r s ⟨rfl, hs⟩ hd
                      obtain rfl := hs.symm
                      simp (disch := omega) only [go_sem]
                      refine DS.wrQ WrF.alloc rfl ?_
                      rintro _ s9 ⟨b13, hbB, rfl, rfl⟩ hdB
                      have huB := (upd_none.1 hbB).1
                      exact ⟨b13, b14, (hdB b13).resolve_left (by rw [upd_same]; simp), disj_new hdA, huB, upd_comm _ huB.symm _ _, rfl, rfl, rfl, rfl, rfl, rfl, rfl, rfl, rfl, rfl, rfl, rfl, rfl⟩
                    · skip
                      refine DS.wrQ WrF.alloc rfl ?_
                      rintro _ s9 ⟨b13, hbB, rfl, rfl⟩ hdB
                      have huB := (upd_none.1 hbB).1
                      simp (disch := omega) only [go_sem]
                      refine DS.wrQ (WrF.call (lessEx_ok (ea := false) (eb := false) (us := bits4 x.high) (ws := port4) (by simp [bits4]) rfl) ⟨[], rfl, rfl⟩) rfl ?_
                      rintro r s ⟨rfl, hs⟩ hd
                      obtain rfl := hs.symm
                      exact ⟨b13, b14, (hdB b13).resolve_left (by rw [upd_same]; simp), disj_new hdA, huB, upd_comm _ huB.symm _ _, rfl, rfl, rfl, rfl, rfl, rfl, rfl, rfl, rfl, rfl, rfl, rfl, rfl⟩
              · skip
                refine DS.wr2 WrF.alloc rfl ?_ ?_
                · rintro _ s9 ⟨b13, hbA, rfl, rfl⟩ hdA
                  simp (disch := omega) only [go_sem]
                  refine DS.wr2 (WrF.call (constBits_ok (n := x.high) (m := 4) (by omega)) ⟨[], rfl, rfl⟩) rfl ?_ ?_
                  · rintro r s ⟨rfl, hs⟩ hd
                    obtain rfl := hs.symm
                    simp (disch := omega) only [go_sem]
                    refine DS.wr2 (WrF.call (lessEx_ok (ea := false) (eb := false) (us := bits4 x.high) (ws := port4) (by simp [bits4]) rfl) ⟨[], rfl, rfl⟩) rfl ?_ ?_
                    · rintro r s ⟨rfl, hs⟩ hd
                      obtain rfl := hs.symm
                      simp (disch := omega) only [go_sem]
                      refine DS.wrQ WrF.alloc rfl ?_
                      rintro _ s9 ⟨b14, hbB, rfl, rfl⟩ hdB
                      have huB := (upd_none.1 hbB).1
                      exact ⟨b13, b14, disj_new hdA, (hdB b14).resolve_left (by rw [upd_same]; simp), huB.symm, rfl, rfl, rfl, rfl, rfl, rfl, rfl, rfl, rfl, rfl, rfl, rfl, rfl, rfl⟩
                    · skip
                      refine DS.wrQ WrF.alloc rfl ?_
                      rintro _ s9 ⟨b14, hbB, rfl, rfl⟩ hdB
                      have huB := (upd_none.1 hbB).1
                      simp (disch := omega) only [go_sem]
                      refine DS.wrQ (WrF.call (lessEx_ok (ea := false) (eb := false) (us := bits4 x.high) (ws := port4) (by simp [bits4]) rfl) ⟨[], rfl, rfl⟩) rfl ?_
                      rintro r s ⟨rfl, hs⟩ hd
                      obtain rfl := hs.symm
                      exact ⟨b13, b14, disj_new hdA, (hdB b14).resolve_left (by rw [upd_same]; simp), huB.symm, rfl, rfl, rfl, rfl, rfl, rfl, rfl, rfl, rfl, rfl, rfl, rfl, rfl, rfl⟩
                  · skip
                    refine DS.wrQ WrF.alloc rfl ?_
                    rintro _ s9 ⟨b14, hbB, rfl, rfl⟩ hdB
                    have huB := (upd_none.1 hbB).1
                    simp (disch := omega) only [go_sem]
                    refine DS.wrQ (WrF.call (constBits_ok (n := x.high) (m := 4) (by omega)) ⟨[], rfl, rfl⟩) rfl ?_
                    rintro r s ⟨rfl, hs⟩ hd
                    obtain rfl := hs.symm
                    simp (disch := omega) only [go_sem]
                    refine DS.wrQ (WrF.call (lessEx_ok (ea := false) (eb := false) (us := bits4 x.high) (ws := port4) (by simp [bits4]) rfl) ⟨[], rfl, rfl⟩) rfl ?_
                    rintro r s ⟨rfl, hs⟩ hd
                    obtain rfl := hs.symm
                    exact ⟨b13, b14, disj_new hdA, (hdB b14).resolve_left (by rw [upd_same]; simp), huB.symm, rfl, rfl, rfl, rfl, rfl, rfl, rfl, rfl, rfl, rfl, rfl, rfl, rfl, rfl⟩
                · skip
                  refine DS.wrQ WrF.alloc rfl ?_
                  rintro _ s9 ⟨b14, hbA, rfl, rfl⟩ hdA
                  simp (disch := omega) only [go_sem]
                  refine DS.wr2 (WrF.call (constBits_ok (n := x.high) (m := 4) (by omega)) ⟨[], rfl, rfl⟩) rfl ?_ ?_
                  · rintro r s ⟨rfl, hs⟩ hd
                    obtain rfl := hs.symm
                    simp (disch := omega) only [go_sem]
                    refine DS.wr2 (WrF.call (lessEx_ok (ea := false) (eb := false) (us := bits4 x.high) (ws := port4) (by simp [bits4]) rfl) ⟨[], rfl, rfl⟩) rfl ?_ ?_
                    · rintro r s ⟨rfl, hs⟩ hd
                      obtain rfl := hs.symm
                      simp (disch := omega) only [go_sem]
                      refine DS.wrQ WrF.alloc rfl ?_
                      rintro _ s9 ⟨b13, hbB, rfl, rfl⟩ hdB
                      have huB := (upd_none.1 hbB).1
                      exact ⟨b13, b14, (hdB b13).resolve_left (by rw [upd_same]; simp), disj_new hdA, huB, upd_comm _ huB.symm _ _, rfl, rfl, rfl, rfl, rfl, rfl, rfl, rfl, rfl, rfl, rfl, rfl, rfl⟩
                    · skip
                      refine DS.wrQ WrF.alloc rfl ?_
                      rintro _ s9 ⟨b13, hbB, rfl, rfl⟩ hdB
                      have huB := (upd_none.1 hbB).1
                      simp (disch := omega) only [go_sem]
                      refine DS.wrQ (WrF.call (lessEx_ok (ea := false) (eb := false) (us := bits4 x.high) (ws := port4) (by simp [bits4]) rfl) ⟨[], rfl, rfl⟩) rfl ?_
                      rintro r s ⟨rfl, hs⟩ hd
                      obtain rfl := hs.symm
                      exact ⟨b13, b14, (hdB b13).resolve_left (by rw [upd_same]; simp), disj_new hdA, huB, upd_comm _ huB.symm _ _, rfl, rfl, rfl, rfl, rfl, rfl, rfl, rfl, rfl, rfl, rfl, rfl, rfl⟩
                  · skip
                    refine DS.wrQ WrF.alloc rfl ?_
                    rintro _ s9 ⟨b13, hbB, rfl, rfl⟩ hdB
                    have huB := (upd_none.1 hbB).1
                    simp (disch := omega) only [go_sem]
                    refine DS.wrQ (WrF.call (constBits_ok (n := x.high) (m := 4) (by omega)) ⟨[], rfl, rfl⟩) rfl ?_
                    rintro r s ⟨rfl, hs⟩ hd
                    obtain rfl := hs.symm
                    simp (disch := omega) only [go_sem]
                    refine DS.wrQ (WrF.call (lessEx_ok (ea := false) (eb := false) (us := bits4 x.high) (ws := port4) (by simp [bits4]) rfl) ⟨[], rfl, rfl⟩) rfl ?_
                    rintro r s ⟨rfl, hs⟩ hd
                    obtain rfl := hs.symm
                    exact ⟨b13, b14, (hdB b13).resolve_left (by rw [upd_same]; simp), disj_new hdA, huB, upd_comm _ huB.symm _ _, rfl, rfl, rfl, rfl, rfl, rfl, rfl, rfl, rfl, rfl, rfl, rfl, rfl⟩
            · skip
              refine DS.wr2 WrF.alloc rfl ?_ ?_
              · rintro _ s9 ⟨b13, hbA, rfl, rfl⟩ hdA
                simp (disch := omega) only [go_sem]
                refine DS.wr2 (WrF.call (lessEx_ok (ea := false) (eb := false) (us := port4) (ws := bits4 x.low) (by decide) rfl) ⟨[], rfl, rfl⟩) rfl ?_ ?_
                · rintro r s ⟨rfl, hs⟩ hd
                  obtain rfl := hs.symm
                  simp (disch := omega) only [go_sem]
                  refine DS.wr2 (WrF.call (constBits_ok (n := x.high) (m := 4) (by omega)) ⟨[], rfl, rfl⟩) rfl ?_ ?_
                  · rintro r s ⟨rfl, hs⟩ hd
                    obtain rfl := hs.symm
                    simp (disch := omega) only [go_sem]
                    refine DS.wr2 (WrF.call (lessEx_ok (ea := false) (eb := false) (us := bits4 x.high) (ws := port4) (by simp [bits4]) rfl) ⟨[], rfl, rfl⟩) rfl ?_ ?_
                    · rintro r s ⟨rfl, hs⟩ hd
                      obtain rfl := hs.symm
                      simp (disch := omega) only [go_sem]
                      refine DS.wrQ WrF.alloc rfl ?_
                      rintro _ s9 ⟨b14, hbB, rfl, rfl⟩ hdB
                      have huB := (upd_none.1 hbB).1
                      exact ⟨b13, b14, disj_new hdA, (hdB b14).resolve_left (by rw [upd_same]; simp), huB.symm, rfl, rfl, rfl, rfl, rfl, rfl, rfl, rfl, rfl, rfl, rfl, rfl, rfl, rfl⟩
                    · skip
                      refine DS.wrQ WrF.alloc rfl ?_
                      rintro _ s9 ⟨b14, hbB, rfl, rfl⟩ hdB
                      have huB := (upd_none.1 hbB).1
                      simp (disch := omega) only [go_sem]
                      refine DS.wrQ (WrF.call (lessEx_ok (ea := false) (eb := false) (us := bits4 x.high) (ws := port4) (by simp [bits4]) rfl) ⟨[], rfl, rfl⟩) rfl ?_
                      rintro r s ⟨rfl, hs⟩ hd
                      obtain rfl := hs.symm
                      exact ⟨b13, b14, disj_new hdA, (hdB b14).resolve_left (by rw [upd_same]; simp), huB.symm, rfl, rfl, rfl, rfl, rfl, rfl, rfl, rfl, rfl, rfl, rfl, rfl, rfl, rfl⟩
                  · skip
                    refine DS.wrQ WrF.alloc rfl ?_
                    rintro _ s9 ⟨b14, hbB, rfl, rfl⟩ hdB
                    have huB := (upd_none.1 hbB).1
                    simp (disch := omega) only [go_sem]
                    refine DS.wrQ (WrF.call (constBits_ok (n := x.high) (m := 4) (by omega)) ⟨[], rfl, rfl⟩) rfl ?_
                    rintro r s ⟨rfl, hs⟩ hd
                    obtain rfl := hs.symm
                    simp (disch := omega) only [go_sem]
                    refine DS.wrQ (WrF.call (lessEx_ok (ea := false) (eb := false) (us := bits4 x.high) (ws := port4) (by simp [bits4]) rfl) ⟨[], rfl, rfl⟩) rfl ?_
                    rintro r s ⟨rfl, hs⟩ hd
                    obtain rfl := hs.symm
                    exact ⟨b13, b14, disj_new hdA, (hdB b14).resolve_left (by rw [upd_same]; simp), huB.symm, rfl, rfl, rfl, rfl, rfl, rfl, rfl, rfl, rfl, rfl, rfl, rfl, rfl, rfl⟩
                · skip
                  refine DS.wrQ WrF.alloc rfl ?_
                  rintro _ s9 ⟨b14, hbB, rfl, rfl⟩ hdB
                  have huB := (upd_none.1 hbB).1
                  simp (disch := omega) only [go_sem]
                  refine DS.wrQ (WrF.call (lessEx_ok (ea := false) (eb := false) (us := port4) (ws := bits4 x.low) (by decide) rfl) ⟨[], rfl, rfl⟩) rfl ?_
                  rintro r s ⟨rfl, hs⟩ hd
                  obtain rfl := hs.symm
                  simp (disch := omega) only [go_sem]
                  refine DS.wrQ (WrF.call (constBits_ok (n := x.high) (m := 4) (by omega)) ⟨[], rfl, rfl⟩) rfl ?_
                  rintro r s ⟨rfl, hs⟩ hd
                  obtain rfl := hs.symm
                  simp (disch := omega) only [go_sem]
                  refine DS.wrQ (WrF.call (lessEx_ok (ea := false) (eb := false) (us := bits4 x.high) (ws := port4) (by simp [bits4]) rfl) ⟨[], rfl, rfl⟩) rfl ?_
                  rintro r s ⟨rfl, hs⟩ hd
                  obtain rfl := hs.symm
                  exact ⟨b13, b14, disj_new hdA, (hdB b14).resolve_left (by rw [upd_same]; simp), huB.symm, rfl, rfl, rfl, rfl, rfl, rfl, rfl, rfl, rfl, rfl, rfl, rfl, rfl, rfl⟩
              · skip
                refine DS.wrQ WrF.alloc rfl ?_
                rintro _ s9 ⟨b14, hbA, rfl, rfl⟩ hdA
                simp (disch := omega) only [go_sem]
                refine DS.wr2 (WrF.call (lessEx_ok (ea := false) (eb := false) (us := port4) (ws := bits4 x.low) (by decide) rfl) ⟨[], rfl, rfl⟩) rfl ?_ ?_
                · rintro r s ⟨rfl, hs⟩ hd
                  obtain rfl := hs.symm
                  simp (disch := omega) only [go_sem]
                  refine DS.wr2 (WrF.call (constBits_ok (n := x.high) (m := 4) (by omega)) ⟨[], rfl, rfl⟩) rfl ?_ ?_
                  · rintro r s ⟨rfl, hs⟩ hd
                    obtain rfl := hs.symm
                    simp (disch := omega) only [go_sem]
                    refine DS.wr2 (WrF.call (lessEx_ok (ea := false) (eb := false) (us := bits4 x.high) (ws := port4) (by simp [bits4]) rfl) ⟨[], rfl, rfl⟩) rfl ?_ ?_
                    · rintro r s ⟨rfl, hs⟩ hd
                      obtain rfl := hs.symm
                      simp (disch := omega) only [go_sem]
                      refine DS.wrQ WrF.alloc rfl ?_
                      rintro _ s9 ⟨b13, hbB, rfl, rfl⟩ hdB
                      have huB := (upd_none.1 hbB).1
                      exact ⟨b13, b14, (hdB b13).resolve_left (by rw [upd_same]; simp), disj_new hdA, huB, upd_comm _ huB.symm _ _, rfl, rfl, rfl, rfl, rfl, rfl, rfl, rfl, rfl, rfl, rfl, rfl, rfl⟩
                    · skip
                      refine DS.wrQ WrF.alloc rfl ?_
                      rintro _ s9 ⟨b13, hbB, rfl, rfl⟩ hdB
                      have huB := (upd_none.1 hbB).1
                      simp (disch := omega) only [go_sem]
                      refine DS.wrQ (WrF.call (lessEx_ok (ea := false) (eb := false) (us := bits4 x.high) (ws := port4) (by simp [bits4]) rfl) ⟨[], rfl, rfl⟩) rfl ?_
                      rintro r s ⟨rfl, hs⟩ hd
                      obtain rfl := hs.symm
                      exact ⟨b13, b14, (hdB b13).resolve_left (by rw [upd_same]; simp), disj_new hdA, huB, upd_comm _ huB.symm _ _, rfl, rfl, rfl, rfl, rfl, rfl, rfl, rfl, rfl, rfl, rfl, rfl, rfl⟩
                  · skip
                    refine DS.wrQ WrF.alloc rfl ?_
                    rintro _ s9 ⟨b13, hbB, rfl, rfl⟩ hdB
                    have huB := (upd_none.1 hbB).1
                    simp (disch := omega) only [go_sem]
                    refine DS.wrQ (WrF.call (constBits_ok (n := x.high) (m := 4) (by omega)) ⟨[], rfl, rfl⟩) rfl ?_
                    rintro r s ⟨rfl, hs⟩ hd
                    obtain rfl := hs.symm
                    simp (disch := omega) only [go_sem]
                    refine DS.wrQ (WrF.call (lessEx_ok (ea := false) (eb := false) (us := bits4 x.high) (ws := port4) (by simp [bits4]) rfl) ⟨[], rfl, rfl⟩) rfl ?_
                    rintro r s ⟨rfl, hs⟩ hd
                    obtain rfl := hs.symm
                    exact ⟨b13, b14, (hdB b13).resolve_left (by rw [upd_same]; simp), disj_new hdA, huB, upd_comm _ huB.symm _ _, rfl, rfl, rfl, rfl, rfl, rfl, rfl, rfl, rfl, rfl, rfl, rfl, rfl⟩
                · skip
                  refine DS.wrQ WrF.alloc rfl ?_
                  rintro _ s9 ⟨b13, hbB, rfl, rfl⟩ hdB
                  have huB := (upd_none.1 hbB).1
                  simp (disch := omega) only [go_sem]
                  refine DS.wrQ (WrF.call (lessEx_ok (ea := false) (eb := false) (us := port4) (ws := bits4 x.low) (by decide) rfl) ⟨[], rfl, rfl⟩) rfl ?_
                  rintro r s ⟨rfl, hs⟩ hd
                  obtain rfl := hs.symm
                  simp (disch := omega) only [go_sem]
                  refine DS.wrQ (WrF.call (constBits_ok (n := x.high) (m := 4) (by omega)) ⟨[], rfl, rfl⟩) rfl ?_
                  rintro r s ⟨rfl, hs⟩ hd
                  obtain rfl := hs.symm
                  simp (disch := omega) only [go_sem]
                  refine DS.wrQ (WrF.call (lessEx_ok (ea := false) (eb := false) (us := bits4 x.high) (ws := port4) (by simp [bits4]) rfl) ⟨[], rfl, rfl⟩) rfl ?_
                  rintro r s ⟨rfl, hs⟩ hd
                  obtain rfl := hs.symm
                  exact ⟨b13, b14, (hdB b13).resolve_left (by rw [upd_same]; simp), disj_new hdA, huB, upd_comm _ huB.symm _ _, rfl, rfl, rfl, rfl, rfl, rfl, rfl, rfl, rfl, rfl, rfl, rfl, rfl⟩
          · skip
            refine DS.wr2 WrF.alloc rfl ?_ ?_
            · rintro _ s9 ⟨b13, hbA, rfl, rfl⟩ hdA
              simp (disch := omega) only [go_sem]
              refine DS.wr2 (WrF.call (constBits_ok (n := x.low) (m := 4) (by omega)) ⟨[], rfl, rfl⟩) rfl ?_ ?_
              · rintro r s ⟨rfl, hs⟩ hd
                obtain rfl := hs.symm
                simp (disch := omega) only [go_sem]
                refine DS.wr2 (WrF.call (lessEx_ok (ea := false) (eb := false) (us := port4) (ws := bits4 x.low) (by decide) rfl) ⟨[], rfl, rfl⟩) rfl ?_ ?_
                · rintro r s ⟨rfl, hs⟩ hd
                  obtain rfl := hs.symm
                  simp (disch := omega) only [go_sem]
                  refine DS.wr2 (WrF.call (constBits_ok (n := x.high) (m := 4) (by omega)) ⟨[], rfl, rfl⟩) rfl ?_ ?_
                  · rintro r s ⟨rfl, hs⟩ hd
                    obtain rfl := hs.symm
                    simp (disch := omega) only [go_sem]
                    refine DS.wr2 (WrF.call (lessEx_ok (ea := false) (eb := false) (us := bits4 x.high) (ws := port4) (by simp [bits4]) rfl) ⟨[], rfl, rfl⟩) rfl ?_ ?_
                    · rintro r s ⟨rfl, hs⟩ hd
                      obtain rfl := hs.symm
                      simp (disch := omega) only [go_sem]
                      refine DS.wrQ WrF.alloc rfl ?_
                      rintro _ s9 ⟨b14, hbB, rfl, rfl⟩ hdB
                      have huB := (upd_none.1 hbB).1
                      exact ⟨b13, b14, disj_new hdA, (hdB b14).resolve_left (by rw [upd_same]; simp), huB.symm, rfl, rfl, rfl, rfl, rfl, rfl, rfl, rfl, rfl, rfl, rfl, rfl, rfl, rfl⟩
                    · skip
                      refine DS.wrQ WrF.alloc rfl ?_
                      rintro _ s9 ⟨b14, hbB, rfl, rfl⟩ hdB
                      have huB := (upd_none.1 hbB).1
                      simp (disch := omega) only [go_sem]
                      refine DS.wrQ (WrF.call (lessEx_ok (ea := false) (eb := false) (us := bits4 x.high) (ws := port4) (by simp [bits4]) rfl) ⟨[], rfl, rfl⟩) rfl ?_
                      rintro r s ⟨rfl, hs⟩ hd
                      obtain rfl := hs.symm
                      exact ⟨b13, b14, disj_new hdA, (hdB b14).resolve_left (by rw [upd_same]; simp), huB.symm, rfl, rfl, rfl, rfl, rfl, rfl, rfl, rfl, rfl, rfl, rfl, rfl, rfl, rfl⟩
                  · skip
                    refine DS.wrQ WrF.alloc rfl ?_
                    rintro _ s9 ⟨b14, hbB, rfl, rfl⟩ hdB
                    have huB := (upd_none.1 hbB).1
                    simp (disch := omega) only [go_sem]
                    refine DS.wrQ (WrF.call (constBits_ok (n := x.high) (m := 4) (by omega)) ⟨[], rfl, rfl⟩) rfl ?_
                    rintro r s ⟨rfl, hs⟩ hd
                    obtain rfl := hs.symm
                    simp (disch := omega) only [go_sem]
                    refine DS.wrQ (WrF.call (lessEx_ok (ea := false) (eb := false) (us := bits4 x.high) (ws := port4) (by simp [bits4]) rfl) ⟨[], rfl, rfl⟩) rfl ?_
                    rintro r s ⟨rfl, hs⟩ hd
                    obtain rfl := hs.symm
                    exact ⟨b13, b14, disj_new hdA, (hdB b14).resolve_left (by rw [upd_same]; simp), huB.symm, rfl, rfl, rfl, rfl, rfl, rfl, rfl, rfl, rfl, rfl, rfl, rfl, rfl, rfl⟩
                · skip
                  refine DS.wrQ WrF.alloc rfl ?_
                  rintro _ s9 ⟨b14, hbB, rfl, rfl⟩ hdB
                  have huB := (upd_none.1 hbB).1
                  simp (disch := omega) only [go_sem]
                  refine DS.wrQ (WrF.call (lessEx_ok (ea := false) (eb := false) (us := port4) (ws := bits4 x.low) (by decide) rfl) ⟨[], rfl, rfl⟩) rfl ?_
                  rintro r s ⟨rfl, hs⟩ hd
                  obtain rfl := hs.symm
                  simp (disch := omega) only [go_sem]
                  refine DS.wrQ (WrF.call (constBits_ok (n := x.high) (m := 4) (by omega)) ⟨[], rfl, rfl⟩) rfl ?_
                  rintro r s ⟨rfl, hs⟩ hd
                  obtain rfl := hs.symm
                  simp (disch := omega) only [go_sem]
                  refine DS.wrQ (WrF.call (lessEx_ok (ea := false) (eb := false) (us := bits4 x.high) (ws := port4) (by simp [bits4]) rfl) ⟨[], rfl, rfl⟩) rfl ?_
                  rintro r s ⟨rfl, hs⟩ hd
                  obtain rfl := hs.symm
                  exact ⟨b13, b14, disj_new hdA, (hdB b14).resolve_left (by rw [upd_same]; simp), huB.symm, rfl, rfl, rfl, rfl, rfl, rfl, rfl, rfl, rfl, rfl, rfl, rfl, rfl, rfl⟩
              · skip
                refine DS.wrQ WrF.alloc rfl ?_
                rintro _ s9 ⟨b14, hbB, rfl, rfl⟩ hdB
                have huB := (upd_none.1 hbB).1
                simp (disch := omega) only [go_sem]
                refine DS.wrQ (WrF.call (constBits_ok (n := x.low) (m := 4) (by omega)) ⟨[], rfl, rfl⟩) rfl ?_
                rintro r s ⟨rfl, hs⟩ hd
                obtain rfl := hs.symm
                simp (disch := omega) only [go_sem]
                refine DS.wrQ (WrF.call (lessEx_ok (ea := false) (eb := false) (us := port4) (ws := bits4 x.low) (by decide) rfl) ⟨[], rfl, rfl⟩) rfl ?_
                rintro r s ⟨rfl, hs⟩ hd
                obtain rfl := hs.symm
                simp (disch := omega) only [go_sem]
                refine DS.wrQ (WrF.call (constBits_ok (n := x.high) (m := 4) (by omega)) ⟨[], rfl, rfl⟩) rfl ?_
                rintro r s ⟨rfl, hs⟩ hd
                obtain rfl := hs.symm
                simp (disch := omega) only [go_sem]
                refine DS.wrQ (WrF.call (lessEx_ok (ea := false) (eb := false) (us := bits4 x.high) (ws := port4) (by simp [bits4]) rfl) ⟨[], rfl, rfl⟩) rfl ?_
                rintro r s ⟨rfl, hs⟩ hd
                obtain rfl := hs.symm
                exact ⟨b13, b14, disj_new hdA, (hdB b14).resolve_left (by rw [upd_same]; simp), huB.symm, rfl, rfl, rfl, rfl, rfl, rfl, rfl, rfl, rfl, rfl, rfl, rfl, rfl, rfl⟩
            · skip
              refine DS.wrQ WrF.alloc rfl ?_
              rintro _ s9 ⟨b14, hbA, rfl, rfl⟩ hdA
              simp (disch := omega) only [go_sem]
              refine DS.wr2 (WrF.call (constBits_ok (n := x.low) (m := 4) (by omega)) ⟨[], rfl, rfl⟩) rfl ?_ ?_
              · rintro r s ⟨rfl, hs⟩ hd
                obtain rfl := hs.symm
                simp (disch := omega) only [go_sem]
                refine DS.wr2 (WrF.call (lessEx_ok (ea := false) (eb := false) (us := port4) (ws := bits4 x.low) (by decide) rfl) ⟨[], rfl, rfl⟩) rfl ?_ ?_
                · rintro r s ⟨rfl, hs⟩ hd
                  obtain rfl := hs.symm
                  simp (disch := omega) only [go_sem]
                  refine DS.wr2 (WrF.call (constBits_ok (n := x.high) (m := 4) (by omega)) ⟨[], rfl, rfl⟩) rfl ?_ ?_
                  · rintro r s ⟨rfl, hs⟩ hd
                    obtain rfl := hs.symm
                    simp (disch := omega) only [go_sem]
                    refine DS.wr2 (WrF.call (lessEx_ok (ea := false) (eb := false) (us := bits4 x.high) (ws := port4) (by simp [bits4]) rfl) ⟨[], rfl, rfl⟩) rfl ?_ ?_
                    · rintro r s ⟨rfl, hs⟩ hd
                      obtain rfl := hs.symm
                      simp (disch := omega) only [go_sem]
                      refine DS.wrQ WrF.alloc rfl ?_
                      rintro _ s9 ⟨b13, hbB, rfl, rfl⟩ hdB
                      have huB := (upd_none.1 hbB).1
                      exact ⟨b13, b14, (hdB b13).resolve_left (by rw [upd_same]; simp), disj_new hdA, huB, upd_comm _ huB.symm _ _, rfl, rfl, rfl, rfl, rfl, rfl, rfl, rfl, rfl, rfl, rfl, rfl, rfl⟩
                    · skip
                      refine DS.wrQ WrF.alloc rfl ?_
                      rintro _ s9 ⟨b13, hbB, rfl, rfl⟩ hdB
                      have huB := (upd_none.1 hbB).1
                      simp (disch := omega) only [go_sem]
                      refine DS.wrQ (WrF.call (lessEx_ok (ea := false) (eb := false) (us := bits4 x.high) (ws := port4) (by simp [bits4]) rfl) ⟨[], rfl, rfl⟩) rfl ?_
                      rintro r s ⟨rfl, hs⟩ hd
                      obtain rfl := hs.symm
                      exact ⟨b13, b14, (hdB b13).resolve_left (by rw [upd_same]; simp), disj_new hdA, huB, upd_comm _ huB.symm _ _, rfl, rfl, rfl, rfl, rfl, rfl, rfl, rfl, rfl, rfl, rfl, rfl, rfl⟩
                  · skip
                    refine DS.wrQ WrF.alloc rfl ?_
                    rintro _ s9 ⟨b13, hbB, rfl, rfl⟩ hdB
                    have huB := (upd_none.1 hbB).1
                    simp (disch := omega) only [go_sem]
                    refine DS.wrQ (WrF.call (constBits_ok (n := x.high) (m := 4) (by omega)) ⟨[], rfl, rfl⟩) rfl ?_
                    rintro r s ⟨rfl, hs⟩ hd
                    obtain rfl := hs.symm
                    simp (disch := omega) only [go_sem]
                    refine DS.wrQ (WrF.call (lessEx_ok (ea := false) (eb := false) (us := bits4 x.high) (ws := port4) (by simp [bits4]) rfl) ⟨[], rfl, rfl⟩) rfl ?_
                    rintro r s ⟨rfl, hs⟩ hd
                    obtain rfl := hs.symm
                    exact ⟨b13, b14, (hdB b13).resolve_left (by rw [upd_same]; simp), disj_new hdA, huB, upd_comm _ huB.symm _ _, rfl, rfl, rfl, rfl, rfl, rfl, rfl, rfl, rfl, rfl, rfl, rfl, rfl⟩
                · skip
                  refine DS.wrQ WrF.alloc rfl ?_
                  rintro _ s9 ⟨b13, hbB, rfl, rfl⟩ hdB
                  have huB := (upd_none.1 hbB).1
                  simp (disch := omega) only [go_sem]
                  refine DS.wrQ (WrF.call (lessEx_ok (ea := false) (eb := false) (us := port4) (ws := bits4 x.low) (by decide) rfl) ⟨[], rfl, rfl⟩) rfl ?_
                  rintro r s ⟨rfl, hs⟩ hd
                  obtain rfl := hs.symm
                  simp (disch := omega) only [go_sem]
                  refine DS.wrQ (WrF.call (constBits_ok (n := x.high) (m := 4) (by omega)) ⟨[], rfl, rfl⟩) rfl ?_
                  rintro r s ⟨rfl, hs⟩ hd
                  obtain rfl := hs.symm
                  simp (disch := omega) only [go_sem]
                  refine DS.wrQ (WrF.call (lessEx_ok (ea := false) (eb := false) (us := bits4 x.high) (ws := port4) (by simp [bits4]) rfl) ⟨[], rfl, rfl⟩) rfl ?_
                  rintro r s ⟨rfl, hs⟩ hd
                  obtain rfl := hs.symm
                  exact ⟨b13, b14, (hdB b13).resolve_left (by rw [upd_same]; simp), disj_new hdA, huB, upd_comm _ huB.symm _ _, rfl, rfl, rfl, rfl, rfl, rfl, rfl, rfl, rfl, rfl, rfl, rfl, rfl⟩
              · skip
                refine DS.wrQ WrF.alloc rfl ?_
                rintro _ s9 ⟨b13, hbB, rfl, rfl⟩ hdB
                have huB := (upd_none.1 hbB).1
                simp (disch := omega) only [go_sem]
                refine DS.wrQ (WrF.call (constBits_ok (n := x.low) (m := 4) (by omega)) ⟨[], rfl, rfl⟩) rfl ?_
                rintro r s ⟨rfl, hs⟩ hd
                obtain rfl := hs.symm
                simp (disch := omega) only [go_sem]
                refine DS.wrQ (WrF.call (lessEx_ok (ea := false) (eb := false) (us := port4) (ws := bits4 x.low) (by decide) rfl) ⟨[], rfl, rfl⟩) rfl ?_
                rintro r s ⟨rfl, hs⟩ hd
                obtain rfl := hs.symm
                simp (disch := omega) only [go_sem]
                refine DS.wrQ (WrF.call (constBits_ok (n := x.high) (m := 4) (by omega)) ⟨[], rfl, rfl⟩) rfl ?_
                rintro r s ⟨rfl, hs⟩ hd
                obtain rfl := hs.symm
                simp (disch := omega) only [go_sem]
                refine DS.wrQ (WrF.call (lessEx_ok (ea := false) (eb := false) (us := bits4 x.high) (ws := port4) (by simp [bits4]) rfl) ⟨[], rfl, rfl⟩) rfl ?_
                rintro r s ⟨rfl, hs⟩ hd
                obtain rfl := hs.symm
                exact ⟨b13, b14, (hdB b13).resolve_left (by rw [upd_same]; simp), disj_new hdA, huB, upd_comm _ huB.symm _ _, rfl, rfl, rfl, rfl, rfl, rfl, rfl, rfl, rfl, rfl, rfl, rfl, rfl⟩
        · rintro T _ ⟨b13, b14, hb13, hb14, n1314, rfl, t1, t2, t3, t6, t8, t10, t43, t44, t45, t13, t14, t63, t68⟩
          rw [cup_upd, cup_new]
          generalize lessE port4 (bits4 x.low) 4 = e1 at *
          generalize lessE (bits4 x.high) port4 4 = e2 at *
          have hb14' : upd s4 b13 (exC e1) b14 = none := by rw [upd_ne _ _ n1314.symm]; exact hb14
          simp (disch := omega) only [t13, t14, t63, t68, n1314, n1314.symm, go_sem]
          have n10_13 : b10 ≠ b13 := fun e => by subst e; rw [k10] at hb13; cases hb13
          have n10_14 : b10 ≠ b14 := fun e => by subst e; rw [k10] at hb14; cases hb14
          have hk : ∀ d y, s4 d = some y → upd (upd (upd (upd s4 b13 [V.int .i64 0, .int .i64 0, .isl true 0 []]) b14 [V.int .i64 0, .int .i64 0, .isl true 0 []]) b13 (exC e1)) b14 (exC e2) d = some y := fun d y h => by
            have h1 : d ≠ b13 := fun e => by subst e; rw [h] at hb13; cases hb13
            have h2 : d ≠ b14 := fun e => by subst e; rw [h] at hb14; cases hb14
            rw [upd_ne _ _ h2, upd_ne _ _ h1, upd_ne _ _ h2, upd_ne _ _ h1]; exact h
          have q13 : upd (upd (upd (upd s4 b13 [V.int .i64 0, .int .i64 0, .isl true 0 []]) b14 [V.int .i64 0, .int .i64 0, .isl true 0 []]) b13 (exC e1)) b14 (exC e2) b13 = some (exC e1) := by rw [upd_ne _ _ n1314, upd_same]
          have q14 : upd (upd (upd (upd s4 b13 [V.int .i64 0, .int .i64 0, .isl true 0 []]) b14 [V.int .i64 0, .int .i64 0, .isl true 0 []]) b13 (exC e1)) b14 (exC e2) b14 = some (exC e2) := upd_same _ _ _
          generalize upd (upd (upd (upd s4 b13 [V.int .i64 0, .int .i64 0, .isl true 0 []]) b14 [V.int .i64 0, .int .i64 0, .isl true 0 []]) b13 (exC e1)) b14 (exC e2) = s5 at *
          have q3 := hk _ _ k3
          have q6 := hk _ _ k6
          have q10 := hk _ _ k10
          rw [W_draw]
          refine SRun.freeze (T' := [(1, .int .i64 a), (2, .int .i64 t), (3, .ptr b3 0), (6, .ptr b6 0), (8, .isl false 3 (exsV port4)), (10, .ptr b10 0), (43, .isl false 4 (filsV n.filters)), (44, .int .i64 n.filters.length), (45, .int .i64 (k : Nat)), (13, .ptr b13 0), (14, .ptr b14 0)]) (σ' := s5) (fun _ _ h => h) ⟨?_, ?_, ?_, ?_, ?_, ?_, ?_, ?_, ?_, ?_, ?_, trivial⟩ ?_
          all_goals try (simp only [look_cons, Nat.reduceEqDiff, ↓reduceIte, t1, t2, t3, t6, t8, t10, t43, t44, t45, t13, t14]; exact .refl _)
          refine DRun.start (DRun.mixE rfl ?_)
          simp (disch := omega) only [q10, q13, q14, go_sem]
          refine DS.callB (implEx_ok (k := 3) (ks := [e1]) (e := true)) ⟨[], rfl, rfl⟩ rfl rfl ?_
          simp (disch := omega) only [go_sem]
          refine DS.callB (implEx_ok (k := 3) (ks := [e2]) (e := true)) ⟨[], rfl, rfl⟩ rfl rfl ?_
          simp (disch := omega) only [go_sem]
          refine DS.callB (implEx_ok (k := 4) (ks := [nodeE 3 [e1], nodeE 3 [e2]]) (e := true)) ⟨[], rfl, rfl⟩ rfl rfl ?_
          simp (disch := omega) only [go_sem]
          refine DRun.callQ (implEx_ok (k := 5) (ks := [e, nodeE 4 [nodeE 3 [e1], nodeE 3 [e2]]]) (e := true)) ⟨[], rfl, rfl⟩ ?_
          rintro r s ⟨rfl, hs⟩
          obtain rfl := hs.symm
          simp (disch := omega) only [q10, go_sem]
          have n310 : b3 ≠ b10 := n103.symm
          have n610 : b6 ≠ b10 := n106.symm
          exact ih (k + 1, upd s5 b10 (exC (nodeE 5 [e, nodeE 4 [nodeE 3 [e1], nodeE 3 [e2]]]))) _ _ ⟨by simp only; omega, by dsimp only; rw [upd_ne _ _ n310]; exact q3, by dsimp only; rw [upd_ne _ _ n610]; exact q6, by dsimp only; rw [hsucc]; exact upd_same _ _ _, fun d y h => by dsimp only; rw [upd_ne _ _ (hσ2 d y h).2.1]; exact hk _ _ (kσ _ _ h)⟩ (by simp only; omega) (by simp (disch := omega) only [subT, Int.natCast_add, Int.cast_ofNat_Int, go_sem] <;> (repeat' apply And.intro) <;> first | rfl | (congr 1; omega) | assumption) rfl
    · have hkl : k = n.filters.length := by omega
      rw [hkl, List.take_length] at h10
      have hsz := filE_size a t n.filters
      generalize filE a t n.filters = e at *
      simp (disch := omega) only [h10, go_sem]
      refine SRun.callQ (checkedEx_own (e := e) (by omega)) ⟨[], rfl, rfl⟩ rfl ?_
      generalize (exRes e).1 = e' at *
      generalize (exRes e).2 = c at *
      rintro r s9 ⟨q, bs, rfl, hk9, hnd9, hfr9, hle9⟩
      have h69 := hle9 _ _ h6
      have hq1 := hk9.one.1
      simp (disch := omega) only [h69, hq1, go_sem]
      have hb6n : ∀ d ∈ bs, d ≠ b6 := fun d hd e => by have := hfr9 d hd; rw [e, h6] at this; cases this
      refine W_retC c43_ok (r := .tup [.agg [.int .i64 (exK e'), .int .i64 (exN e'), q], .int .i64 c]) (resV_2E rfl (upd_same _ _ _) rfl) ⟨fun _ _ h => h, .refl _⟩ ⟨q, bs, rfl, kidsAt.more e' q bs hk9 fun d hd x hx => by rw [upd_ne _ _ (hb6n d hd)]; exact hx, hnd9, fun d hd => none_of hle d (hfr9 d hd), fun d x hd => ?_⟩
      rw [upd_ne _ _ (hσ d x hd).1]; exact hle9 _ _ (hle _ _ hd)
end Go.Proofs.Ytlidjjjpjndneaa.Lg
