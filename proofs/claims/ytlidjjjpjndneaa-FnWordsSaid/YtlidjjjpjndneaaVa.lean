/- Expressions are made, and copied. -/
import Derived.Test.YtlidjjjpjndneaaCw
import Derived.Test.YtlidjjjpjndneaaEn
set_option linter.unusedSimpArgs false
set_option linter.unusedVariables false
namespace Go.Proofs.Ytlidjjjpjndneaa.Lg
open Go
attribute [local irreducible] SRun DS DRun
variable {Γ : St} {σ σ0 : St}
def nodeE (k : Int) (ks : List Ex) : Ex := .mk k 0 ks
def constE (n : Int) : Ex := .mk 2 n []
def varE (n : Int) : Ex := .mk 1 n []
theorem exC_one_T (e : Ex) : (∀ c, c ∈ exC e → c.one = true) = True := eq_true (exC_one e)
theorem sets_exC3 (e : Ex) (a b c : V) : sets [a, b, c] 0 (exC e) = exC e := by obtain ⟨k, n, ks⟩ := e; rfl
theorem sets_exC2 (e g : Ex) : sets (exC e) 0 (exC g) = exC g := by obtain ⟨k, n, ks⟩ := e; obtain ⟨k, n, ks⟩ := g; rfl
attribute [go_sem] exC_one_T sets_exC3 sets_exC2
theorem nodeE_frz {σ σ' : St} (k : Int) (ks : List Ex) (e : Bool) : Frz σ σ' (.agg [.int .i64 k, .int .i64 0, .isl e 3 (exsV ks)]) (exV (nodeE k ks)) := exV_conv (.isl _ _ _)
theorem constE_frz {σ σ' : St} (n : Int) : Frz σ σ' (.agg [.int .i64 2, .int .i64 n, .isl true 0 []]) (exV (constE n)) := exV_conv (frz_nil _ _)
theorem varE_frz {σ σ' : St} (n : Int) : Frz σ σ' (.agg [.int .i64 1, .int .i64 n, .isl true 0 []]) (exV (varE n)) := exV_conv (frz_nil _ _)
theorem constEx_ok {n : Int} : Ret Try.prog Γ 108 [.int .i64 n] σ (exV (constE n)) σ := by
  refine ret_of c108_ok rfl ?_
  simp (disch := omega) only [c108, go_sem, ↓if_pos, ne_eq, ↓reduceIte]
  refine SRun.allocR ?_
  intro b2 hb2
  simp (disch := omega) only [go_sem, ↓if_pos, ne_eq, ↓reduceIte]
  exact W_retC c108_ok (r := .agg [.int .i64 2, .int .i64 n, .isl true 0 []]) (r' := exV (constE n)) (σ' := σ) (resV_cellA rfl (upd_same _ _ _) rfl) ⟨le_upd hb2, constE_frz n⟩ ⟨rfl, rfl⟩
theorem l05Const_ok {n : Int} : Ret Try.prog Γ 146 [.int .i64 n] σ (exV (constE n)) σ := by
  refine ret_of c146_ok rfl ?_
  simp (disch := omega) only [c146, go_sem, ↓if_pos, ne_eq, ↓reduceIte]
  refine SRun.allocR ?_
  intro b2 hb2
  simp (disch := omega) only [go_sem, ↓if_pos, ne_eq, ↓reduceIte]
  exact W_retC c146_ok (r := .agg [.int .i64 2, .int .i64 n, .isl true 0 []]) (r' := exV (constE n)) (σ' := σ) (resV_cellA rfl (upd_same _ _ _) rfl) ⟨le_upd hb2, constE_frz n⟩ ⟨rfl, rfl⟩
theorem implEx_ok {k : Int} {ks : List Ex} {e : Bool} : Ret Try.prog Γ 111 [.int .i64 k, .isl e 3 (exsV ks)] σ (exV (nodeE k ks)) σ := by
  refine ret_of c111_ok rfl ?_
  simp (disch := omega) only [c111, go_sem, ↓if_pos, ne_eq, ↓reduceIte]
  refine SRun.allocR ?_
  intro b4 hb4
  simp (disch := omega) only [go_sem, ↓if_pos, ne_eq, ↓reduceIte]
  exact W_retC c111_ok (r := .agg [.int .i64 k, .int .i64 0, .isl e 3 (exsV ks)]) (r' := exV (nodeE k ks)) (σ' := σ) (resV_cellA rfl (upd_same _ _ _) rfl) ⟨le_upd hb4, nodeE_frz k ks e⟩ ⟨rfl, rfl⟩
theorem l05Ex_ok {k : Int} {ks : List Ex} {e : Bool} : Ret Try.prog Γ 148 [.int .i64 k, .isl e 3 (exsV ks)] σ (exV (nodeE k ks)) σ := by
  refine ret_of c148_ok rfl ?_
  simp (disch := omega) only [c148, go_sem, ↓if_pos, ne_eq, ↓reduceIte]
  refine SRun.allocR ?_
  intro b4 hb4
  simp (disch := omega) only [go_sem, ↓if_pos, ne_eq, ↓reduceIte]
  exact W_retC c148_ok (r := .agg [.int .i64 k, .int .i64 0, .isl e 3 (exsV ks)]) (r' := exV (nodeE k ks)) (σ' := σ) (resV_cellA rfl (upd_same _ _ _) rfl) ⟨le_upd hb4, nodeE_frz k ks e⟩ ⟨rfl, rfl⟩
theorem exs_take {ks : List Ex} {i : Nat} (h : i < ks.length) : exsV (ks.take i) ++ [exV (ks.getD i default)] = exsV (ks.take (i + 1)) := by rw [take_succ default h, exs_app]
theorem exs1_ok (e : Ex) : ∀ y ∈ [exV e], y.cells.length = 3 ∧ ∀ c ∈ y.cells, c.one = true := exsV_ok [e]
theorem cloneEx_ok : ∀ e, ∀ {Γ σ : St}, sizeE e ≤ 1000000 → Ret Try.prog Γ 145 [exV e] σ (exV e) σ := by
  refine Ex.ind fun k n ks ih Γ σ hsz => ?_
  have hlen := sizeL_len ks
  simp only [sizeE] at hsz
  refine ret_of c145_ok rfl ?_
  simp (disch := omega) only [c145, exV_mk, go_sem, ↓if_pos, ne_eq, ↓reduceIte]
  refine SRun.boxR (by simp [ev, look, V.cells, V.one]) ?_
  intro b1 hb1
  simp (disch := omega) only [go_sem, ↓if_pos, ne_eq, ↓reduceIte]
  refine SRun.allocR ?_
  intro b2 hb2
  have n21 := (upd_none.1 hb2).1
  have hσ : ∀ d x, σ d = some x → d ≠ b1 ∧ d ≠ b2 ∧ upd (upd σ b1 [.int .i64 k, .int .i64 n, .isl false 3 (exsV ks)]) b2 [.int .i64 0, .int .i64 0, .isl true 0 []] d = some x := fun d x h => ⟨fun e => by (subst e; rw [hb1] at h; cases h), fun e => by (subst e; rw [(upd_none.1 hb2).2] at h; cases h), le_upd hb2 _ _ (le_upd hb1 _ _ h)⟩
  have g1 : upd (upd σ b1 [.int .i64 k, .int .i64 n, .isl false 3 (exsV ks)]) b2 [.int .i64 0, .int .i64 0, .isl true 0 []] b1 = some [.int .i64 k, .int .i64 n, .isl false 3 (exsV ks)] := by rw [upd_ne _ _ n21.symm, upd_same]
  have g2 := upd_same (upd σ b1 [.int .i64 k, .int .i64 n, .isl false 3 (exsV ks)]) b2 [.int .i64 0, .int .i64 0, .isl true 0 []]
  simp (disch := omega) only [g1, go_sem, ↓if_pos, ne_eq, ↓reduceIte]
  generalize upd (upd σ b1 [.int .i64 k, .int .i64 n, .isl false 3 (exsV ks)]) b2 [.int .i64 0, .int .i64 0, .isl true 0 []] = A0 at *
  refine W_loopC (α := Nat × V × St × St) (fun p => p.1 ≤ ks.length ∧ OwnL p.2.2.1 3 (exsV (ks.take p.1)) p.2.1 p.2.2.2 ∧ ∀ d x, A0 d = some x → p.2.2.1 d = some x)
    (fun p => [(1, .ptr b1 0), (2, .ptr b2 0), (3, p.2.1), (7, .isl false 3 (exsV ks)), (8, .int .i64 ks.length), (9, .int .i64 (p.1 : Nat))]) (fun p => p.2.2.2) (fun p => ks.length - p.1) (0, .isl true 0 [], A0, A0) ⟨by simp, OwnL.nil _ _, fun _ _ h => h⟩ (by simp (disch := omega) only [subT, Int.natCast_add, Int.cast_ofNat_Int, go_sem, ↓if_pos, ne_eq, ↓reduceIte] <;> (repeat' apply And.intro) <;> first | rfl | (congr 1; omega) | assumption) rfl ?_
  rintro ⟨i, t, A, s⟩ ⟨hi, ho, hle⟩ ih2
  dsimp only at hi ho hle
  simp (disch := omega) only [go_sem, ↓if_pos, ne_eq, ↓reduceIte]
  first | refine iteW_dec (fun hq => ?_) (fun hq => ?_) | refine iteW_of (fun hq => ?_) (fun hq => ?_)
  · have he := getD_mem default (by omega : i < ks.length)
    have hs2 := sizeL_mem he
    simp (disch := omega) only [go_sem, ↓if_pos, ne_eq, ↓reduceIte]
    refine SRun.allocR ?_
    intro b5 hb5
    have ho2 := ho.ext (z := exC (ks.getD i default)) hb5
    simp (disch := omega) only [go_sem, ↓if_pos, ne_eq, ↓reduceIte]
    refine SRun.callR (ih _ he (by omega)) ⟨[], rfl, rfl⟩ rfl ?_
    simp (disch := omega) only [List.getD_cons_zero, List.getD_cons_succ, go_sem, ↓if_pos, ne_eq, ↓reduceIte]
    refine SRun.appL ho2 rfl (exs1_ok _) (by rw [exsV_len]; simp only [List.length_take, List.length_singleton]; omega) ?_
    intro t2 s3 ho3
    rw [exs_take (by omega)] at ho3
    have hA : A b5 = none := by
      cases hc : A b5 with
      | none => rfl
      | some x => rw [ho.get hc] at hb5; cases hb5
    simp (disch := omega) only [go_sem, ↓if_pos, ne_eq, ↓reduceIte]
    exact ih2 (i + 1, t2, _, s3) _ _ ⟨by simp only; omega, ho3, fun d z h => le_upd hA _ _ (hle _ _ h)⟩ (by simp only; omega) (by simp (disch := omega) only [subT, Int.natCast_add, Int.cast_ofNat_Int, go_sem, ↓if_pos, ne_eq, ↓reduceIte] <;> (repeat' apply And.intro) <;> first | rfl | (congr 1; omega) | assumption) rfl
  · have hik : i = ks.length := by omega
    rw [hik, List.take_length] at ho
    have s1 := ho.get (hle _ _ g1)
    have s2 := ho.get (hle _ _ g2)
    have ht1 := ho.one
    have s2' : ∀ z, upd s b1 z b2 = some [.int .i64 0, .int .i64 0, .isl true 0 []] := fun z => by rw [upd_ne _ _ n21]; exact s2
    simp (disch := omega) only [s1, s2', ht1, ho.cells, go_sem, ↓if_pos, ne_eq, ↓reduceIte]
    refine W_retC c145_ok (r := .agg [.int .i64 k, .int .i64 n, t]) (r' := exV (.mk k n ks)) (σ' := σ) (resV_cellA rfl (upd_same _ _ _) rfl) ⟨fun d x hd => ?_, exV_conv (ho.frz (fun d hd => ?_) (fun d hd => ?_))⟩ ⟨(exV_mk _ _ _), rfl⟩
    · obtain ⟨n1, n2, h⟩ := hσ d x hd
      rw [upd_ne _ _ n2, upd_ne _ _ n1]; exact ho.get (hle _ _ h)
    · rw [upd_ne, upd_ne]
      · intro e; subst e; rw [hle _ _ g1] at hd; cases hd
      · intro e; subst e; rw [hle _ _ g2] at hd; cases hd
    · cases hc : σ d with
      | none => rfl
      | some x => rw [hle _ _ (hσ d x hc).2.2] at hd; cases hd
theorem l05Copy_ok : ∀ e, ∀ {Γ σ : St}, sizeE e ≤ 1000000 → Ret Try.prog Γ 149 [exV e] σ (exV e) σ := by
  refine Ex.ind fun k n ks ih Γ σ hsz => ?_
  have hlen := sizeL_len ks
  simp only [sizeE] at hsz
  refine ret_of c149_ok rfl ?_
  simp (disch := omega) only [c149, exV_mk, go_sem, ↓if_pos, ne_eq, ↓reduceIte]
  refine SRun.boxR (by simp [ev, look, V.cells, V.one]) ?_
  intro b1 hb1
  simp (disch := omega) only [go_sem, ↓if_pos, ne_eq, ↓reduceIte]
  refine SRun.allocR ?_
  intro b2 hb2
  have n21 := (upd_none.1 hb2).1
  have hσ : ∀ d x, σ d = some x → d ≠ b1 ∧ d ≠ b2 ∧ upd (upd σ b1 [.int .i64 k, .int .i64 n, .isl false 3 (exsV ks)]) b2 [.int .i64 0, .int .i64 0, .isl true 0 []] d = some x := fun d x h => ⟨fun e => by (subst e; rw [hb1] at h; cases h), fun e => by (subst e; rw [(upd_none.1 hb2).2] at h; cases h), le_upd hb2 _ _ (le_upd hb1 _ _ h)⟩
  have g1 : upd (upd σ b1 [.int .i64 k, .int .i64 n, .isl false 3 (exsV ks)]) b2 [.int .i64 0, .int .i64 0, .isl true 0 []] b1 = some [.int .i64 k, .int .i64 n, .isl false 3 (exsV ks)] := by rw [upd_ne _ _ n21.symm, upd_same]
  have g2 := upd_same (upd σ b1 [.int .i64 k, .int .i64 n, .isl false 3 (exsV ks)]) b2 [.int .i64 0, .int .i64 0, .isl true 0 []]
  simp (disch := omega) only [g1, go_sem, ↓if_pos, ne_eq, ↓reduceIte]
  generalize upd (upd σ b1 [.int .i64 k, .int .i64 n, .isl false 3 (exsV ks)]) b2 [.int .i64 0, .int .i64 0, .isl true 0 []] = A0 at *
  refine SRun.allocR ?_
  intro b3 hb3
  have n31 : b3 ≠ b1 := fun e => by subst e; rw [g1] at hb3; cases hb3
  have n32 : b3 ≠ b2 := fun e => by subst e; rw [g2] at hb3; cases hb3
  simp (disch := omega) only [go_sem, ↓if_pos, ne_eq, ↓reduceIte]
  have own0 : OwnL (upd A0 b3 [.int .i64 k, .int .i64 n, .isl true 0 []]) 3 (exsV (ks.take 0)) (.isl true 0 []) (upd A0 b3 [.int .i64 k, .int .i64 n, .isl true 0 []]) := OwnL.nil _ _
  refine W_loopC (α := Nat × V × St) (fun p => p.1 ≤ ks.length ∧ OwnL (upd A0 b3 [.int .i64 k, .int .i64 n, p.2.1]) 3 (exsV (ks.take p.1)) p.2.1 p.2.2)
    (fun p => [(1, .ptr b1 0), (2, .ptr b2 0), (3, .ptr b3 0), (4, .int .i64 (p.1 : Nat))]) (fun p => p.2.2) (fun p => ks.length - p.1) (0, .isl true 0 [], _) ⟨by simp, own0⟩ (by simp (disch := omega) only [subT, Int.natCast_add, Int.cast_ofNat_Int, go_sem, ↓if_pos, ne_eq, ↓reduceIte] <;> (repeat' apply And.intro) <;> first | rfl | (congr 1; omega) | assumption) rfl ?_
  rintro ⟨i, t, s⟩ ⟨hi, ho⟩ ih2
  dsimp only at hi ho
  have s1 := ho.get (b := b1) (c := [.int .i64 k, .int .i64 n, .isl false 3 (exsV ks)]) (by rw [upd_ne _ _ n31.symm]; exact g1)
  have s2 := ho.get (b := b2) (c := [.int .i64 0, .int .i64 0, .isl true 0 []]) (by rw [upd_ne _ _ n32.symm]; exact g2)
  have s3 := ho.get (upd_same _ b3 _)
  have ht1 := ho.one
  simp (disch := omega) only [s1, go_sem, ↓if_pos, ne_eq, ↓reduceIte]
  first | refine iteW_dec (fun hq => ?_) (fun hq => ?_) | refine iteW_of (fun hq => ?_) (fun hq => ?_)
  · have he := getD_mem default (by omega : i < ks.length)
    have hs2 := sizeL_mem he
    simp (disch := omega) only [go_sem, ↓if_pos, ne_eq, ↓reduceIte]
    refine W_drawW ?_
    refine DRun.mixE rfl ?_
    simp (disch := omega) only [s1, s3, go_sem, ↓if_pos, ne_eq, ↓reduceIte]
    refine DS.callB (ih _ he (by omega)) ⟨[], rfl, rfl⟩ rfl rfl ?_
    simp (disch := omega) only [go_sem, ↓if_pos, ne_eq, ↓reduceIte]
    refine DRun.appL ho rfl (exs1_ok _) (by rw [exsV_len]; simp only [List.length_take, List.length_singleton]; omega) ?_
    intro t2 s4 ho3
    rw [exs_take (by omega)] at ho3
    have s43 := ho3.get (upd_same _ b3 _)
    simp (disch := omega) only [s43, ho3.one, ho3.cells, go_sem, ↓if_pos, ne_eq, ↓reduceIte]
    have ho4 := ho3.upd (c' := [.int .i64 k, .int .i64 n, t2]) (upd_same _ b3 _)
    rw [upd_upd] at ho4
    exact ih2 (i + 1, t2, _) _ _ ⟨by simp only; omega, ho4⟩ (by simp only; omega) (by simp (disch := omega) only [subT, Int.natCast_add, Int.cast_ofNat_Int, go_sem, ↓if_pos, ne_eq, ↓reduceIte] <;> (repeat' apply And.intro) <;> first | rfl | (congr 1; omega) | assumption) rfl
  · have hik : i = ks.length := by omega
    rw [hik, List.take_length] at ho
    simp (disch := omega) only [s3, s2, ht1, ho.cells, go_sem, ↓if_pos, ne_eq, ↓reduceIte]
    refine W_retC c149_ok (r := .agg [.int .i64 k, .int .i64 n, t]) (r' := exV (.mk k n ks)) (σ' := σ) (resV_cellA rfl (upd_same _ _ _) rfl) ⟨fun d x hd => ?_, exV_conv (ho.frz (fun d hd => ?_) (fun d hd => ?_))⟩ ⟨(exV_mk _ _ _), rfl⟩
    · obtain ⟨n1, n2, h⟩ := hσ d x hd
      have n3 : d ≠ b3 := fun e => by subst e; rw [h] at hb3; cases hb3
      rw [upd_ne _ _ n2]; exact ho.get (by rw [upd_ne _ _ n3]; exact h)
    · have hd := upd_none.1 hd
      rw [upd_ne]
      intro e; subst e; rw [g2] at hd; cases hd.2
    · have hd := upd_none.1 hd
      cases hc : σ d with
      | none => rfl
      | some x => rw [(hσ d x hc).2.2] at hd; cases hd.2
end Go.Proofs.Ytlidjjjpjndneaa.Lg
