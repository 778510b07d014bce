/- An expression's copy is owned. -/
import Derived.Test.YtlidjjjpjndneaaKx7
set_option linter.unusedSimpArgs false
set_option linter.unusedVariables false
namespace Go.Proofs.Ytlidjjjpjndneaa.Lg
open Go
attribute [local irreducible] SRun DS DRun
variable {Γ : St} {σ σ0 : St}
theorem agg3_ok {k n : Int} {q : V} (h : q.one = true) : ∀ y ∈ [V.agg [.int .i64 k, .int .i64 n, q]], y.cells.length = 3 ∧ ∀ c ∈ y.cells, c.one = true := by
  intro y hy
  rw [List.mem_singleton.1 hy]
  refine ⟨rfl, fun c hc => ?_⟩
  simp only [V.cells, List.mem_cons, List.not_mem_nil, or_false] at hc
  rcases hc with rfl | rfl | rfl
  · rfl
  · rfl
  · exact h
theorem flat_agg3 (xs : List V) (k n : Int) (q : V) : flat (xs ++ [V.agg [.int .i64 k, .int .i64 n, q]]) = flat xs ++ [.int .i64 k, .int .i64 n, q] := by simp [flat, V.cells]
theorem listAt_one {e : Ex} {q : V} {bs : List Nat} (h : kidsAt σ e q bs) : listAt σ [e] [.int .i64 (exK e), .int .i64 (exN e), q] bs := by
  rw [listAt_cons]
  exact ⟨q, bs, [], [], rfl, by simp, h, by rw [listAt_nil]; exact ⟨rfl, rfl⟩⟩
set_option maxHeartbeats 2000000 in
theorem cloneEx_own : ∀ e, ∀ {Γ σ : St}, sizeE e ≤ 1000000 → ACalls Try.prog Γ 145 [exV e] σ fun r s => ∃ q bs, r = .agg [.int .i64 (exK e), .int .i64 (exN e), q] ∧ kidsAt s e q bs ∧ bs.Nodup ∧ (∀ b ∈ bs, σ b = none) ∧ ∀ d c, σ d = some c → s d = some c := by
  refine Ex.ind fun k n ks ih Γ σ hsz => ?_
  have hlen := sizeL_len ks
  simp only [sizeE] at hsz
  refine acalls_W c145_ok rfl ?_
  simp (disch := omega) only [c145, exV_mk, go_sem]
  refine SRun.boxR (by simp [ev, look, V.cells, V.one]) ?_
  intro b1 hb1
  simp (disch := omega) only [go_sem]
  refine SRun.allocR ?_
  intro b2 hb2
  have n21 := (upd_none.1 hb2).1
  have hσ : ∀ d x, σ d = some x → upd (upd σ b1 [.int .i64 k, .int .i64 n, .isl false 3 (exsV ks)]) b2 [.int .i64 0, .int .i64 0, .isl true 0 []] d = some x := fun d x h => le_upd hb2 _ _ (le_upd hb1 _ _ h)
  have m1 := hb1
  have m2 := (upd_none.1 hb2).2
  have g1 : upd (upd σ b1 [.int .i64 k, .int .i64 n, .isl false 3 (exsV ks)]) b2 [.int .i64 0, .int .i64 0, .isl true 0 []] b1 = some [.int .i64 k, .int .i64 n, .isl false 3 (exsV ks)] := by rw [upd_ne _ _ n21.symm, upd_same]
  have g2 := upd_same (upd σ b1 [.int .i64 k, .int .i64 n, .isl false 3 (exsV ks)]) b2 [.int .i64 0, .int .i64 0, .isl true 0 []]
  simp (disch := omega) only [g1, go_sem]
  generalize upd (upd σ b1 [.int .i64 k, .int .i64 n, .isl false 3 (exsV ks)]) b2 [.int .i64 0, .int .i64 0, .isl true 0 []] = A0 at *
  refine W_loopC (α := Nat × V × List V × List Nat × St × St) (fun p => p.1 ≤ ks.length ∧ OwnL p.2.2.2.2.1 3 p.2.2.1 p.2.1 p.2.2.2.2.2 ∧ p.2.2.1.length = p.1 ∧ listAt p.2.2.2.2.1 (ks.take p.1) (flat p.2.2.1) p.2.2.2.1 ∧ p.2.2.2.1.Nodup ∧ (∀ b ∈ p.2.2.2.1, A0 b = none) ∧ (∀ d x, A0 d = some x → p.2.2.2.2.1 d = some x) ∧ (p.1 = 0 → p.2.1 = .isl true 0 [] ∧ p.2.2.2.1 = []))
    (fun p => [(1, .ptr b1 0), (2, .ptr b2 0), (3, p.2.1), (7, .isl false 3 (exsV ks)), (8, .int .i64 ks.length), (9, .int .i64 (p.1 : Nat))]) (fun p => p.2.2.2.2.2) (fun p => ks.length - p.1) (0, .isl true 0 [], [], [], A0, A0) ⟨by simp, OwnL.nil _ _, rfl, by rw [List.take_zero, listAt_nil]; exact ⟨rfl, rfl⟩, List.nodup_nil, fun b hb => by (simp only at hb; cases hb), fun _ _ h => h, fun _ => ⟨rfl, rfl⟩⟩ (by simp (disch := omega) only [subT, Int.natCast_add, Int.cast_ofNat_Int, go_sem] <;> (repeat' apply And.intro) <;> first | rfl | (congr 1; omega) | assumption) rfl ?_
  rintro ⟨i, t, xs, bs, A, s⟩ ⟨hi, ho, hxl, hla, hnd, hfr, hle, h0⟩ ih2
  dsimp only at hi ho hxl hla hnd hfr hle h0
  simp (disch := omega) only [go_sem]
  first | refine iteW_dec (fun hq => ?_) (fun hq => ?_) | refine iteW_of (fun hq => ?_) (fun hq => ?_)
  · have he := getD_mem default (by omega : i < ks.length)
    have hs2 := sizeL_mem he
    have htk := take_succ (default : Ex) (by omega : i < ks.length)
    simp (disch := omega) only [go_sem]
    generalize ks.getD i default = e at *
    refine SRun.allocR ?_
    intro b5 hb5
    have ho2 := ho.ext (z := exC e) hb5
    simp (disch := omega) only [go_sem]
    refine SRun.callQ (ih e he (by omega)) ⟨[], rfl, rfl⟩ rfl ?_
    rintro r s3 ⟨q', bs', rfl, hk, hnd', hfr', hle3⟩
    obtain ⟨σ1, ho3, h01, h1s⟩ := ho2.grow hle3
    have hA5 : A b5 = none := by
      cases hc : A b5 with
      | none => rfl
      | some x => rw [ho.get hc] at hb5; cases hb5
    have hA1 : ∀ d x, A d = some x → σ1 d = some x := fun d x h => h01 d x (le_upd hA5 _ _ h)
    have hk1 : kidsAt σ1 e q' bs' := kidsAt.more e q' bs' hk fun b hb c hc => by rw [h1s b (hfr' b hb)]; exact hc
    have hq1 := hk.one
    simp (disch := omega) only [go_sem]
    refine ⟨hq1.1, ?_⟩
    refine SRun.appL ho3 rfl (agg3_ok hq1.1) ?_ ?_
    · simp only [List.length_singleton]; omega
    intro t2 s4 ho4
    have hnot : ∀ b ∈ bs', A b = none := fun b hb => by
      cases hc : A b with
      | none => rfl
      | some c =>
        have := hfr' b hb
        rw [le_upd hb5 _ _ (ho.get hc)] at this; cases this
    simp (disch := omega) only [go_sem]
    refine ih2 (i + 1, t2, _, bs ++ bs', σ1, s4) _ _ ⟨by simp only; omega, ho4, by simp only [List.length_append, List.length_singleton]; omega, ?_, ?_, fun b hb => ?_, fun d x h => hA1 _ _ (hle _ _ h), fun h => by (simp only at h; omega)⟩ (by simp only; omega) (by simp (disch := omega) only [subT, Int.natCast_add, Int.cast_ofNat_Int, go_sem] <;> (repeat' apply And.intro) <;> first | rfl | (congr 1; omega) | assumption) rfl
    · simp only
      rw [htk, flat_agg3]
      exact listAt_app (hla.more fun b _ c hc => hA1 b c hc) (listAt_one hk1)
    · simp only
      refine List.nodup_append.2 ⟨hnd, hnd', fun a ha b hb hab => ?_⟩
      subst hab
      exact hla.has a ha (hnot a hb)
    · simp only at hb
      rcases List.mem_append.1 hb with hb | hb
      · exact hfr b hb
      · cases hc : A0 b with
        | none => rfl
        | some c => have := hnot b hb; rw [hle _ _ hc] at this; cases this
  · have hik : i = ks.length := by omega
    rw [hik, List.take_length] at hla
    have s1 := ho.get (hle _ _ g1)
    have s2 := ho.get (hle _ _ g2)
    have ht1 := ho.one
    have s2' : ∀ z, upd s b1 z b2 = some [.int .i64 0, .int .i64 0, .isl true 0 []] := fun z => by rw [upd_ne _ _ n21]; exact s2
    simp (disch := omega) only [s1, s2', ht1, ho.cells, go_sem]
    have hb1n : ∀ b ∈ bs, b ≠ b1 ∧ b ≠ b2 := fun b hb => ⟨fun e => by (have := hfr b hb; rw [e, g1] at this; cases this), fun e => by (have := hfr b hb; rw [e, g2] at this; cases this)⟩
    have hσ0 : ∀ b, A0 b = none → σ b = none := fun b hb => none_of hσ b hb
    have fin : ∀ d c, σ d = some c → upd (upd s b1 [.int .i64 k, .int .i64 n, t]) b2 [.int .i64 k, .int .i64 n, t] d = some c := fun d c h => by
      have e1 : d ≠ b1 := fun e => by subst e; rw [m1] at h; cases h
      have e2 : d ≠ b2 := fun e => by subst e; rw [m2] at h; cases h
      rw [upd_ne _ _ e2, upd_ne _ _ e1]; exact ho.get (hle _ _ (hσ _ _ h))
    by_cases hks : ks = []
    · obtain ⟨rfl, rfl⟩ := h0 (by rw [hik, hks]; rfl)
      refine W_retC c145_ok (r := .agg [.int .i64 k, .int .i64 n, .isl true 0 []]) (resV_cellA rfl (upd_same _ _ _) rfl) ⟨fun _ _ h => h, .refl _⟩ ⟨_, [], rfl, ?_, List.nodup_nil, (fun b hb => by cases hb), fin⟩
      rw [kidsAt_mk]
      exact .inl ⟨hks, ⟨_, rfl⟩, rfl⟩
    · have hxn : xs ≠ [] := fun e => hks (List.eq_nil_of_length_eq_zero (by rw [← hik, ← hxl, e]; rfl))
      obtain ⟨b, cap, rfl, hbs, hcap, hA, rfl⟩ := ho.at hxn
      have hbb : ∀ d ∈ bs, d ≠ b := fun d hd e => by subst e; exact hla.has d hd hA
      have hA0b : A0 b = none := none_of hle b hA
      have nb1 : b ≠ b1 := fun e => by subst e; rw [g1] at hA0b; cases hA0b
      have nb2 : b ≠ b2 := fun e => by subst e; rw [g2] at hA0b; cases hA0b
      refine W_retC c145_ok (r := .agg [.int .i64 k, .int .i64 n, .msl b 3 0 xs.length cap]) (resV_cellA rfl (upd_same _ _ _) rfl) ⟨fun _ _ h => h, .refl _⟩ ⟨_, b :: bs, rfl, ?_, List.nodup_cons.2 ⟨fun h => hbb b h rfl, hnd⟩, fun d hd => ?_, fin⟩
      · rw [kidsAt_mk]
        refine .inr ⟨b, cap, flat xs, bs, by rw [hxl, hik], by rw [upd_ne _ _ nb2, upd_ne _ _ nb1, upd_same], rfl, hla.more fun d hd c hc => ?_⟩
        rw [upd_ne _ _ (hb1n d hd).2, upd_ne _ _ (hb1n d hd).1, upd_ne _ _ (hbb d hd)]; exact hc
      · rcases List.mem_cons.1 hd with rfl | hd
        · exact hσ0 _ hA0b
        · exact hσ0 _ (hfr d hd)
end Go.Proofs.Ytlidjjjpjndneaa.Lg
