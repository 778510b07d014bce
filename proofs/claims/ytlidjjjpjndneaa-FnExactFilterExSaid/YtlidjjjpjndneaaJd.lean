/- Owned expressions are marked in place; expressions that are the same; what holds its marks. -/
import Derived.Test.YtlidjjjpjndneaaJc
set_option linter.unusedSimpArgs false
set_option linter.unusedVariables false
namespace Go.Proofs.Ytlidjjjpjndneaa.Lg
open Go
attribute [local irreducible] SRun DS DRun
variable {Γ : St} {σ σ0 : St}
theorem set_at {A B : List V} {x y : V} {m : Nat} (h : A.length = m) : (A ++ x :: B).set m y = A ++ y :: B := by
  rw [List.set_append_right _ _ (by omega), h, Nat.sub_self, List.set_cons_zero]
theorem set_at1 {A B : List V} {x y z : V} {m : Nat} (h : A.length = m) : (A ++ x :: y :: B).set (m + 1) z = A ++ x :: z :: B := by
  rw [List.set_append_right _ _ (by omega), show m + 1 - A.length = 1 by omega, List.set_cons_succ, List.set_cons_zero]
theorem get_at2 {A B : List V} {x y z : V} {m : Nat} (h : A.length = m) : (A ++ x :: y :: z :: B)[m + 2]? = some z := by
  rw [List.getElem?_append_right (by omega), show m + 2 - A.length = 2 by omega]; rfl
set_option maxHeartbeats 2000000 in
theorem markExS_at : ∀ e, ∀ {Γ σ : St} {q : V} {bs : List Nat} {k : Int}, kidsAt σ e q bs → bs.Nodup → sizeE e ≤ 1000000 → 0 ≤ k → k + 2 * (sizeE e : Int) ≤ 2000000000 → ACalls Try.prog Γ 100 [q, .int .i64 k] σ fun r s => r = .int .i64 (numE e k).2 ∧ kidsAt s (numE e k).1 q bs ∧ ∀ d, d ∉ bs → s d = σ d := by
  refine Ex.ind fun kk n ks ih Γ σ q bs k h hnd hsz hk0 hk1 => ?_
  have hE := numE_mk (kk := kk) (n := n) (k := k) (ks := ks)
  rw [hE]
  have hlen := sizeL_len ks
  simp only [sizeE] at hsz hk1
  rw [kidsAt_mk] at h
  rcases h with ⟨rfl, ⟨es, rfl⟩, rfl⟩ | ⟨b, cap, cs, bs', rfl, hb, rfl, hl⟩
  · refine acalls_W c100_ok rfl ?_
    simp (disch := omega) only [c100, go_sem]
    refine W_loopC (α := Unit) (fun _ => True) (fun _ => [(0, .isl true es []), (1, .int .i64 k), (5, .int .i64 0)]) (fun _ => σ) (fun _ => 0) () trivial (by simp (disch := omega) only [subT, Int.natCast_add, Int.cast_ofNat_Int, go_sem] <;> (repeat' apply And.intro) <;> first | rfl | (congr 1; omega) | assumption) rfl ?_
    intro _ _ _
    simp (disch := omega) only [List.length_nil, go_sem]
    exact W_retR c100_ok rfl ⟨by rw [numL_nil]; rfl, by rw [kidsAt_mk, numL_nil]; exact .inl ⟨rfl, ⟨_, rfl⟩, rfl⟩, by intros; rfl⟩
  · have hnd1 := (List.nodup_cons.1 hnd).1
    have hnd2 := (List.nodup_cons.1 hnd).2
    refine acalls_W c100_ok rfl ?_
    simp (disch := omega) only [c100, go_sem]
    refine W_loopC (α := Nat × List V × List V × List Nat × List Nat × St) (fun p => p.1 ≤ ks.length ∧ p.2.2.2.2.2 b = some (p.2.1 ++ p.2.2.1) ∧ p.2.1.length = p.1 * 3 ∧ listAt p.2.2.2.2.2 (numL (ks.take p.1) k).1 p.2.1 p.2.2.2.1 ∧ listAt p.2.2.2.2.2 (ks.drop p.1) p.2.2.1 p.2.2.2.2.1 ∧ bs' = p.2.2.2.1 ++ p.2.2.2.2.1 ∧ ∀ d, d ∉ b :: bs' → p.2.2.2.2.2 d = σ d)
      (fun p => [(0, .msl b 3 0 ks.length cap), (1, .int .i64 (numL (ks.take p.1) k).2), (5, .int .i64 (p.1 : Nat))]) (fun p => p.2.2.2.2.2) (fun p => ks.length - p.1) (0, [], cs, [], bs', σ) ⟨by simp, hb, rfl, by rw [List.take_zero, numL_nil, listAt_nil]; exact ⟨rfl, rfl⟩, hl, rfl, fun _ _ => rfl⟩ (by simp (disch := omega) only [subT, Int.natCast_add, Int.cast_ofNat_Int, List.take_zero, numL_nil, go_sem] <;> (repeat' apply And.intro) <;> first | rfl | (congr 1; omega) | assumption) rfl ?_
    rintro ⟨i, cD, cR, bD, bR, s⟩ ⟨hi, hsb, hcl, hlD, hlR, hbs, hout⟩ ih2
    dsimp only at hi hsb hcl hlD hlR hbs hout
    have hkb := numL_bound (ks.take i) k
    have hst : sizeL (ks.take i) ≤ sizeL ks := by
      have : sizeL ks = sizeL (ks.take i) + sizeL (ks.drop i) := by
        have h := List.take_append_drop i ks
        conv => lhs; rw [← h]
        rw [sizeL_sum, sizeL_sum, sizeL_sum, List.map_append, List.sum_append]
      omega
    simp (disch := omega) only [go_sem]
    first | refine iteW_dec (fun hq => ?_) (fun hq => ?_) | refine iteW_of (fun hq => ?_) (fun hq => ?_)
    · have hlt : i < ks.length := by omega
      have hdr := drop_cons (default : Ex) hlt
      have htk := take_succ (default : Ex) hlt
      have hem := getD_mem default hlt
      have hes := sizeL_mem hem
      have hse : sizeL (ks.take i) + sizeE (ks.getD i default) ≤ sizeL ks := by
        have : sizeL ks = sizeL (ks.take i) + sizeL (ks.drop i) := by
          have h := List.take_append_drop i ks
          conv => lhs; rw [← h]
          rw [sizeL_sum, sizeL_sum, sizeL_sum, List.map_append, List.sum_append]
        rw [hdr] at this
        simp only [sizeL] at this
        omega
      generalize ks.getD i default = e at *
      rw [hdr, listAt_cons] at hlR
      obtain ⟨q', b1, b2, cs', rfl, rfl, hk, hlR'⟩ := hlR
      have hnum := numL_app (xs := ks.take i) (e := e) (k := k)
      rw [← htk] at hnum
      generalize hkk : numL (ks.take i) k = NK at *
      obtain ⟨nks, k2⟩ := NK
      dsimp only at hnum hkb hlD
      have hs1 : (cD ++ V.int .i64 (exK e) :: V.int .i64 (exN e) :: q' :: cs').set (i * 3) (.int .i64 k2) = cD ++ V.int .i64 k2 :: V.int .i64 (exN e) :: q' :: cs' := set_at hcl
      have hs2 : (cD ++ V.int .i64 k2 :: V.int .i64 (exN e) :: q' :: cs').set (i * 3 + 1) (.int .i64 (k2 + 1)) = cD ++ V.int .i64 k2 :: V.int .i64 (k2 + 1) :: q' :: cs' := set_at1 hcl
      have hs3 : (cD ++ V.int .i64 k2 :: V.int .i64 (k2 + 1) :: q' :: cs')[i * 3 + 2]? = some q' := get_at2 hcl
      have ek2 : k2 + 1 + 1 = k2 + 2 := by omega
      simp (disch := omega) only [hsb, hs1, hs2, hs3, List.length_append, List.length_cons, hcl, ek2, go_sem]
      have hndB := hnd2
      rw [hbs] at hndB
      have hbn : ∀ d ∈ bD ++ (b1 ++ b2), d ≠ b := fun d hd e => hnd1 (by rw [hbs, ← e]; exact hd)
      have hnd2' := List.nodup_append.1 hndB
      have hnd3 := List.nodup_append.1 hnd2'.2.1
      refine SRun.callQ (ih e hem (kidsAt.more e q' b1 hk fun d hd c hc => by rw [upd_ne _ _ (hbn d (by simp [hd]))]; exact hc) hnd3.1 (by omega) (by omega) (by omega)) ⟨[], rfl, rfl⟩ rfl ?_
      rintro r s2 ⟨rfl, hk2, ho2⟩
      have heb := numE_bound e (k2 + 2)
      simp (disch := omega) only [go_sem]
      have hb2 : s2 b = some (cD ++ V.int .i64 k2 :: V.int .i64 (k2 + 1) :: q' :: cs') := by
        rw [ho2 b (fun h => hbn b (by simp [h]) rfl), upd_same]
      have hsame : ∀ d, d ≠ b → d ∉ b1 → s2 d = s d := fun d h1 h2 => by rw [ho2 d h2, upd_ne _ _ h1]
      refine ih2 (i + 1, cD ++ [.int .i64 k2, .int .i64 (k2 + 1), q'], cs', bD ++ b1, b2, s2) _ _ ⟨by simp only; omega, by simp only; rw [hb2, List.append_assoc]; rfl, by simp only [List.length_append, List.length_cons, List.length_nil]; omega, ?_, ?_, by simp only; rw [List.append_assoc]; exact hbs, fun d hd => ?_⟩ (by simp only; omega) (by simp (disch := omega) only [subT, Int.natCast_add, Int.cast_ofNat_Int, hnum, go_sem] <;> (repeat' apply And.intro) <;> first | rfl | (congr 1; omega) | assumption) rfl
      · simp only [hnum]
        have hp := setKN_parts k2 (k2 + 1) (numE e (k2 + 2)).1
        have h1 := listAt_one (kidsAt.relabel (k := k2) (n := k2 + 1) hk2)
        rw [hp.1, hp.2.1] at h1
        refine listAt_app (hlD.more fun d hd c hc => ?_) h1
        rw [hsame d (hbn d (by simp [hd])) (fun h => hnd2'.2.2 d hd d (by simp [h]) rfl)]; exact hc
      · simp only
        refine hlR'.more fun d hd c hc => ?_
        rw [hsame d (hbn d (by simp [hd])) (fun h => hnd3.2.2 d h d hd rfl)]; exact hc
      · simp only [List.mem_cons, not_or] at hd
        show s2 d = σ d
        rw [hsame d hd.1 (fun h => hd.2 (by rw [hbs]; simp [h]))]
        exact hout d (by simp only [List.mem_cons, not_or]; exact hd)
    · have hil : i = ks.length := by omega
      subst hil
      rw [List.take_length] at hlD
      rw [List.drop_length, listAt_nil] at hlR
      obtain ⟨rfl, rfl⟩ := hlR
      rw [List.append_nil] at hsb hbs
      subst hbs
      rw [List.take_length]
      simp (disch := omega) only [go_sem]
      refine W_retR c100_ok rfl ⟨rfl, ?_, hout⟩
      rw [kidsAt_mk]
      exact .inr ⟨b, cap, cD, bs', by rw [numL_len], hsb, rfl, hlD⟩
theorem take_bound (ks : List Ex) {i : Nat} (h : i < ks.length) : sizeL (ks.take i) + sizeE (ks.getD i default) ≤ sizeL ks := by
  have : sizeL ks = sizeL (ks.take i) + sizeL (ks.drop i) := by
    have h := List.take_append_drop i ks
    conv => lhs; rw [← h]
    rw [sizeL_sum, sizeL_sum, sizeL_sum, List.map_append, List.sum_append]
  rw [drop_cons (default : Ex) h] at this
  simp only [sizeL] at this
  omega
theorem numL_get {ks : List Ex} {k : Int} {i : Nat} (h : i < ks.length) : (numL ks k).1.getD i default = setKN (numL (ks.take i) k).2 ((numL (ks.take i) k).2 + 1) (numE (ks.getD i default) ((numL (ks.take i) k).2 + 2)).1 := by
  induction ks generalizing i k with
  | nil => simp at h
  | cons e r ih =>
    cases i with
    | zero => rw [numL_cons, List.take_zero, numL_nil]; rfl
    | succ i =>
      rw [numL_cons, List.take_succ_cons, numL_cons]
      simp only [List.getD_cons_succ]
      exact ih (by simpa using h)
set_option maxHeartbeats 1000000 in
theorem heldExS_ok : ∀ e, ∀ {Γ σ : St} {ex : Bool} {k : Int}, sizeE e ≤ 1000000 → 0 ≤ k → k + 2 * (sizeE e : Int) ≤ 2000000000 → Ret Try.prog Γ 137 [.isl ex 3 (exsV (exL (numE e k).1)), .int .i64 k] σ (.int .i64 (numE e k).2) σ := by
  refine Ex.ind fun kk n ks ih Γ σ ex k hsz hk0 hk1 => ?_
  rw [numE_mk]
  show Ret Try.prog Γ 137 [.isl ex 3 (exsV (numL ks k).1), .int .i64 k] σ (.int .i64 (numL ks k).2) σ
  have hlen := sizeL_len ks
  simp only [sizeE] at hsz hk1
  have hnl : (numL ks k).1.length = ks.length := numL_len
  have hel : (exsV (numL ks k).1).length = ks.length := by rw [exsV_len, hnl]
  refine ret_of c137_ok rfl ?_
  simp (disch := omega) only [c137, go_sem]
  refine W_loopC (α := Nat) (fun i => i ≤ ks.length) (fun i => [(0, .isl ex 3 (exsV (numL ks k).1)), (1, .int .i64 (numL (ks.take i) k).2), (5, .int .i64 (i : Nat))]) (fun _ => σ) (fun i => ks.length - i) 0 (by omega) (by simp (disch := omega) only [subT, Int.natCast_add, Int.cast_ofNat_Int, List.take_zero, numL_nil, go_sem] <;> (repeat' apply And.intro) <;> first | rfl | (congr 1; omega) | assumption) rfl ?_
  intro i hi ih2
  simp (disch := omega) only [hel, go_sem]
  first | refine iteW_dec (fun hq => ?_) (fun hq => ?_) | refine iteW_of (fun hq => ?_) (fun hq => ?_)
  · have hlt : i < ks.length := by omega
    have htk := take_succ (default : Ex) hlt
    have hem := getD_mem default hlt
    have hes := sizeL_mem hem
    have hse := take_bound ks hlt
    have hkb := numL_bound (ks.take i) k
    have hg := numL_get (k := k) hlt
    have hnum := numL_app (xs := ks.take i) (e := ks.getD i default) (k := k)
    rw [← htk] at hnum
    generalize ks.getD i default = e at *
    have heb := numE_bound e ((numL (ks.take i) k).2 + 2)
    have IH := fun Γ σ => ih e hem (Γ := Γ) (σ := σ) (ex := false) (k := (numL (ks.take i) k).2 + 2) (by omega) (by omega) (by omega)
    generalize (numL (ks.take i) k).2 = k2 at *
    generalize (numL (ks.take i) k).1 = nks at *
    have hp := setKN_parts k2 (k2 + 1) (numE e (k2 + 2)).1
    have hv : exC (setKN k2 (k2 + 1) (numE e (k2 + 2)).1) = [.int .i64 k2, .int .i64 (k2 + 1), .isl false 3 (exsV (exL (numE e (k2 + 2)).1))] := by rw [exC_K, hp.1, hp.2.1, hp.2.2]
    have c1 : (decide ¬ k2 = k2) = false := by simp
    have c2 : (decide ¬ (k2 + 1) = k2 + 1) = false := by simp
    have ek2 : k2 + 1 + 1 = k2 + 2 := by omega
    have c3 : decide ((numE e (k2 + 2)).2 < 0) = false := decide_eq_false (by omega)
    simp (disch := omega) only [hnl, hg, hv, c1, c2, ek2, go_sem]
    refine SRun.callR (IH _ _) ⟨[], rfl, rfl⟩ rfl ?_
    simp (disch := omega) only [c3, go_sem]
    exact ih2 (i + 1) _ _ (by omega) (by omega) (by simp (disch := omega) only [subT, Int.natCast_add, Int.cast_ofNat_Int, hnum, go_sem] <;> (repeat' apply And.intro) <;> first | rfl | (congr 1; omega) | assumption) rfl
  · have hil : i = ks.length := by omega
    subst hil
    rw [List.take_length]
    simp (disch := omega) only [go_sem]
    exact W_retR c137_ok rfl ⟨rfl, rfl⟩
theorem eqExS_of {ex ex2 : Bool} {ks : List Ex} (hl : ks.length ≤ 1000000) (he : ∀ e ∈ ks, ∀ Γ σ, Ret Try.prog Γ 38 [exV e, exV e] σ (.bool true) σ) : Ret Try.prog Γ 99 [.isl ex 3 (exsV ks), .isl ex2 3 (exsV ks)] σ (.bool true) σ := by
  have hel := exsV_len ks
  have c1 : (decide ¬ ((ks.length : Nat) : Int) = (ks.length : Nat)) = false := by simp
  refine ret_of c99_ok rfl ?_
  simp (disch := omega) only [c99, hel, c1, go_sem]
  refine W_loopC (α := Nat) (fun i => i ≤ ks.length) (fun i => [(0, .isl ex 3 (exsV ks)), (1, .isl ex2 3 (exsV ks)), (5, .int .i64 (i : Nat))]) (fun _ => σ) (fun i => ks.length - i) 0 (by omega) (by simp (disch := omega) only [subT, Int.natCast_add, Int.cast_ofNat_Int, go_sem] <;> (repeat' apply And.intro) <;> first | rfl | (congr 1; omega) | assumption) rfl ?_
  intro i hi ih
  simp (disch := omega) only [hel, go_sem]
  first | refine iteW_dec (fun hq => ?_) (fun hq => ?_) | refine iteW_of (fun hq => ?_) (fun hq => ?_)
  · have hem := getD_mem default (by omega : i < ks.length)
    simp (disch := omega) only [go_sem]
    refine W_drawW ?_
    simp (disch := omega) only [go_sem]
    generalize ks.getD i default = e at *
    refine DRun.callQ (he e hem _ _) ⟨[], rfl, rfl⟩ ?_
    rintro r s ⟨rfl, hs⟩
    obtain rfl := hs.symm
    simp (disch := omega) only [go_sem]
    exact ih (i + 1) _ _ (by omega) (by omega) (by simp (disch := omega) only [subT, Int.natCast_add, Int.cast_ofNat_Int, go_sem] <;> (repeat' apply And.intro) <;> first | rfl | (congr 1; omega) | assumption) rfl
  · simp (disch := omega) only [go_sem]
    exact W_retR c99_ok rfl ⟨rfl, rfl⟩
theorem eqEx_ok : ∀ e, sizeE e ≤ 1000000 → ∀ {Γ σ : St}, Ret Try.prog Γ 38 [exV e, exV e] σ (.bool true) σ := by
  refine Ex.ind fun k n ks ih hsz Γ σ => ?_
  have hlen := sizeL_len ks
  simp only [sizeE] at hsz
  have c1 : (decide ¬ k = k) = false := by simp
  have c2 : (decide ¬ n = n) = false := by simp
  refine ret_of c38_ok rfl ?_
  simp (disch := omega) only [c38, exV_mk, go_sem]
  refine SRun.boxR (by simp [ev, look, V.cells, V.one]) ?_
  intro b2 hb2
  have g2 := upd_same σ b2 [.int .i64 k, .int .i64 n, .isl false 3 (exsV ks)]
  have hσ := le_upd (cs := [.int .i64 k, .int .i64 n, .isl false 3 (exsV ks)]) hb2
  simp (disch := omega) only [go_sem]
  generalize upd σ b2 [.int .i64 k, .int .i64 n, .isl false 3 (exsV ks)] = s1 at *
  refine SRun.boxR (by simp [ev, look, V.cells, V.one]) ?_
  intro b3 hb3
  have g23 := le_upd (cs := [.int .i64 k, .int .i64 n, .isl false 3 (exsV ks)]) hb3 _ _ g2
  have g3 := upd_same s1 b3 [.int .i64 k, .int .i64 n, .isl false 3 (exsV ks)]
  have hσ2 : ∀ d x, σ d = some x → upd s1 b3 [.int .i64 k, .int .i64 n, .isl false 3 (exsV ks)] d = some x := fun d x h => le_upd hb3 _ _ (hσ d x h)
  simp (disch := omega) only [g23, c1, c2, go_sem]
  refine SRun.callR (eqExS_of (by omega) fun e he Γ σ => ih e he (by have := sizeL_mem he; omega)) ⟨[], rfl, rfl⟩ rfl ?_
  simp (disch := omega) only [go_sem]
  exact W_retC c38_ok rfl (Conv.drop _ hσ2) ⟨rfl, rfl⟩
theorem markEx_at {e : Ex} {q : V} {bs : List Nat} {k : Int} (h : kidsAt σ e q bs) (hnd : bs.Nodup) (hsz : sizeE e ≤ 1000000) (hk0 : 0 ≤ k) (hk1 : k + 2 * (sizeE e : Int) ≤ 2000000000) : ACalls Try.prog Γ 39 [.agg [.int .i64 (exK e), .int .i64 (exN e), q], .int .i64 k] σ fun r s => r = .int .i64 (numE e k).2 ∧ kidsAt s (numE e k).1 q bs ∧ ∀ d, d ∉ bs → σ d ≠ none → s d = σ d := by
  have hq := h.one
  refine acalls_W c39_ok rfl ?_
  simp (disch := omega) only [c39, go_sem]
  refine SRun.boxR (by simp [ev, look, V.cells, V.one]; exact hq.1) ?_
  intro b2 hb2
  have hn : ∀ d ∈ bs, d ≠ b2 := fun d hd e => by subst e; exact kidsAt.has e q bs h d hd hb2
  have h2 := kidsAt.more (s := upd σ b2 [.int .i64 (exK e), .int .i64 (exN e), q]) e q bs h fun d hd c hc => by rw [upd_ne _ _ (hn d hd)]; exact hc
  simp (disch := omega) only [go_sem]
  refine SRun.callQ (markExS_at e h2 hnd hsz hk0 hk1) ⟨[], rfl, rfl⟩ rfl ?_
  rintro r s ⟨rfl, hk, ho⟩
  simp (disch := omega) only [go_sem]
  refine W_retR c39_ok rfl ⟨rfl, hk, fun d hd hs => ?_⟩
  rw [ho d hd, upd_ne _ _ (fun e => by subst e; exact hs hb2)]
theorem heldEx_ok {e : Ex} {k : Int} (hsz : sizeE e ≤ 1000000) (hk0 : 0 ≤ k) (hk1 : k + 2 * (sizeE e : Int) ≤ 2000000000) : Ret Try.prog Γ 51 [exV (numE e k).1, .int .i64 k] σ (.int .i64 (numE e k).2) σ := by
  have hb := numE_bound e k
  have c3 : decide ((numE e k).2 < 0) = false := decide_eq_false (by omega)
  refine ret_of c51_ok rfl ?_
  simp (disch := omega) only [c51, exV_K, go_sem]
  refine SRun.boxR (by simp [ev, look, V.cells, V.one]) ?_
  intro b2 hb2
  simp (disch := omega) only [go_sem]
  refine SRun.callR (heldExS_ok e (ex := false) hsz hk0 hk1) ⟨[], rfl, rfl⟩ rfl ?_
  simp (disch := omega) only [c3, go_sem]
  exact W_retC c51_ok rfl (Conv.drop _ (le_upd hb2)) ⟨rfl, rfl⟩
end Go.Proofs.Ytlidjjjpjndneaa.Lg
