/- What is told of the functions that are reached, as far as it is asked here. -/
import Derived.Test.YtlidjjjpjndneaaKx1
import Derived.KernelRfl
set_option linter.unusedSimpArgs false
set_option linter.unusedVariables false
namespace Go.Proofs.Ytlidjjjpjndneaa.Lg
open Go
section
attribute [local irreducible] SRun DS DRun
variable {Γ : St} {σ σ0 : St}
def nodeE (k : Int) (ks : List Ex) : Ex := .mk k 0 ks
def constE (n : Int) : Ex := .mk 2 n []
def varE (n : Int) : Ex := .mk 1 n []
theorem exC_one_T (e : Ex) : (∀ c, c ∈ exC e → c.one = true) = True := eq_true (exC_one e)
theorem sets_exC3 (e : Ex) (a b c : V) : sets [a, b, c] 0 (exC e) = exC e := by obtain ⟨k, n, ks⟩ := e; rfl
theorem sets_exC2 (e g : Ex) : sets (exC e) 0 (exC g) = exC g := by obtain ⟨k, n, ks⟩ := e; obtain ⟨k, n, ks⟩ := g; rfl
attribute [go_sem] exC_one_T sets_exC3 sets_exC2
theorem nodeE_frz {σ σ' : St} (k : Int) (ks : List Ex) (e : Bool) : Frz σ σ' (.agg [.int .i64 k, .int .i64 0, .isl e 3 (exsV ks)]) (exV (nodeE k ks)) := exV_conv (.isl _ _ _)
theorem constE_frz {σ σ' : St} (n : Int) : Frz σ σ' (.agg [.int .i64 2, .int .i64 n, .isl true 0 []]) (exV (constE n)) := exV_conv (frz_nil _ _)
theorem constEx_ok {n : Int} : Ret Try.prog Γ 108 [.int .i64 n] σ (exV (constE n)) σ := by
 refine ret_of c108_ok rfl ?_
 simp (disch := omega) only [c108, go_sem]
 refine SRun.allocR ?_
 intro b2 hb2
 simp (disch := omega) only [go_sem]
 exact W_retC c108_ok (r := .agg [.int .i64 2, .int .i64 n, .isl true 0 []]) (r' := exV (constE n)) (σ' := σ) (resV_cellA rfl (upd_same _ _ _) rfl) ⟨le_upd hb2, constE_frz n⟩ ⟨rfl, rfl⟩
theorem l05Const_ok {n : Int} : Ret Try.prog Γ 146 [.int .i64 n] σ (exV (constE n)) σ := by
 refine ret_of c146_ok rfl ?_
 simp (disch := omega) only [c146, go_sem]
 refine SRun.allocR ?_
 intro b2 hb2
 simp (disch := omega) only [go_sem]
 exact W_retC c146_ok (r := .agg [.int .i64 2, .int .i64 n, .isl true 0 []]) (r' := exV (constE n)) (σ' := σ) (resV_cellA rfl (upd_same _ _ _) rfl) ⟨le_upd hb2, constE_frz n⟩ ⟨rfl, rfl⟩
theorem implEx_ok {k : Int} {ks : List Ex} {e : Bool} : Ret Try.prog Γ 111 [.int .i64 k, .isl e 3 (exsV ks)] σ (exV (nodeE k ks)) σ := by
 refine ret_of c111_ok rfl ?_
 simp (disch := omega) only [c111, go_sem]
 refine SRun.allocR ?_
 intro b4 hb4
 simp (disch := omega) only [go_sem]
 exact W_retC c111_ok (r := .agg [.int .i64 k, .int .i64 0, .isl e 3 (exsV ks)]) (r' := exV (nodeE k ks)) (σ' := σ) (resV_cellA rfl (upd_same _ _ _) rfl) ⟨le_upd hb4, nodeE_frz k ks e⟩ ⟨rfl, rfl⟩
theorem l05Ex_ok {k : Int} {ks : List Ex} {e : Bool} : Ret Try.prog Γ 148 [.int .i64 k, .isl e 3 (exsV ks)] σ (exV (nodeE k ks)) σ := by
 refine ret_of c148_ok rfl ?_
 simp (disch := omega) only [c148, go_sem]
 refine SRun.allocR ?_
 intro b4 hb4
 simp (disch := omega) only [go_sem]
 exact W_retC c148_ok (r := .agg [.int .i64 k, .int .i64 0, .isl e 3 (exsV ks)]) (r' := exV (nodeE k ks)) (σ' := σ) (resV_cellA rfl (upd_same _ _ _) rfl) ⟨le_upd hb4, nodeE_frz k ks e⟩ ⟨rfl, rfl⟩
theorem exs_take {ks : List Ex} {i : Nat} (h : i < ks.length) : exsV (ks.take i) ++ [exV (ks.getD i default)] = exsV (ks.take (i + 1)) := by rw [take_succ default h, exs_app]
theorem exs1_ok (e : Ex) : ∀ y ∈ [exV e], y.cells.length = 3 ∧ ∀ c ∈ y.cells, c.one = true := exsV_ok [e]
theorem cloneEx_ok : ∀ e, ∀ {Γ σ : St}, sizeE e ≤ 1000000 → Ret Try.prog Γ 145 [exV e] σ (exV e) σ := by
 refine Ex.ind fun k n ks ih Γ σ hsz => ?_
 have hlen := sizeL_len ks
 simp only [sizeE] at hsz
 refine ret_of c145_ok rfl ?_
 simp (disch := omega) only [c145, exV_mk, go_sem]
 refine SRun.boxR (by simp [ev, look, V.cells, V.one]) ?_
 intro b1 hb1
 simp (disch := omega) only [go_sem]
 refine SRun.allocR ?_
 intro b2 hb2
 have n21 := (upd_none.1 hb2).1
 have hσ : ∀ d x, σ d = some x → d ≠ b1 ∧ d ≠ b2 ∧ upd (upd σ b1 [.int .i64 k, .int .i64 n, .isl false 3 (exsV ks)]) b2 [.int .i64 0, .int .i64 0, .isl true 0 []] d = some x := fun d x h => ⟨fun e => by (subst e; rw [hb1] at h; cases h), fun e => by (subst e; rw [(upd_none.1 hb2).2] at h; cases h), le_upd hb2 _ _ (le_upd hb1 _ _ h)⟩
 have g1 : upd (upd σ b1 [.int .i64 k, .int .i64 n, .isl false 3 (exsV ks)]) b2 [.int .i64 0, .int .i64 0, .isl true 0 []] b1 = some [.int .i64 k, .int .i64 n, .isl false 3 (exsV ks)] := by rw [upd_ne _ _ n21.symm, upd_same]
 have g2 := upd_same (upd σ b1 [.int .i64 k, .int .i64 n, .isl false 3 (exsV ks)]) b2 [.int .i64 0, .int .i64 0, .isl true 0 []]
 simp (disch := omega) only [g1, go_sem]
 generalize upd (upd σ b1 [.int .i64 k, .int .i64 n, .isl false 3 (exsV ks)]) b2 [.int .i64 0, .int .i64 0, .isl true 0 []] = A0 at *
 refine W_loopC (α := Nat × V × St × St) (fun p => p.1 ≤ ks.length ∧ OwnL p.2.2.1 3 (exsV (ks.take p.1)) p.2.1 p.2.2.2 ∧ ∀ d x, A0 d = some x → p.2.2.1 d = some x)
  (fun p => [(1, .ptr b1 0), (2, .ptr b2 0), (3, p.2.1), (7, .isl false 3 (exsV ks)), (8, .int .i64 ks.length), (9, .int .i64 (p.1 : Nat))]) (fun p => p.2.2.2) (fun p => ks.length - p.1) (0, .isl true 0 [], A0, A0) ⟨by simp, OwnL.nil _ _, fun _ _ h => h⟩ (by simp (disch := omega) only [subT, Int.natCast_add, Int.cast_ofNat_Int, go_sem] <;> (repeat' apply And.intro) <;> first | rfl | (congr 1; omega) | assumption) rfl ?_
 rintro ⟨i, t, A, s⟩ ⟨hi, ho, hle⟩ ih2
 dsimp only at hi ho hle
 simp (disch := omega) only [go_sem]
 first | refine iteW_dec (fun hq => ?_) (fun hq => ?_) | refine iteW_of (fun hq => ?_) (fun hq => ?_)
 ·have he := getD_mem default (by omega : i < ks.length)
  have hs2 := sizeL_mem he
  simp (disch := omega) only [go_sem]
  refine SRun.allocR ?_
  intro b5 hb5
  have ho2 := ho.ext (z := exC (ks.getD i default)) hb5
  simp (disch := omega) only [go_sem]
  refine SRun.callR (ih _ he (by omega)) ⟨[], rfl, rfl⟩ rfl ?_
  simp (disch := omega) only [List.getD_cons_zero, List.getD_cons_succ, go_sem]
  refine SRun.appL ho2 rfl (exs1_ok _) (by rw [exsV_len]; simp only [List.length_take, List.length_singleton]; omega) ?_
  intro t2 s3 ho3
  rw [exs_take (by omega)] at ho3
  have hA : A b5 = none := by
   cases hc : A b5 with
   | none => rfl
   | some x => rw [ho.get hc] at hb5; cases hb5
  simp (disch := omega) only [go_sem]
  exact ih2 (i + 1, t2, _, s3) _ _ ⟨by simp only; omega, ho3, fun d z h => le_upd hA _ _ (hle _ _ h)⟩ (by simp only; omega) (by simp (disch := omega) only [subT, Int.natCast_add, Int.cast_ofNat_Int, go_sem] <;> (repeat' apply And.intro) <;> first | rfl | (congr 1; omega) | assumption) rfl
 ·have hik : i = ks.length := by omega
  rw [hik, List.take_length] at ho
  have s1 := ho.get (hle _ _ g1)
  have s2 := ho.get (hle _ _ g2)
  have ht1 := ho.one
  have s2' : ∀ z, upd s b1 z b2 = some [.int .i64 0, .int .i64 0, .isl true 0 []] := fun z => by rw [upd_ne _ _ n21]; exact s2
  simp (disch := omega) only [s1, s2', ht1, ho.cells, go_sem]
  refine W_retC c145_ok (r := .agg [.int .i64 k, .int .i64 n, t]) (r' := exV (.mk k n ks)) (σ' := σ) (resV_cellA rfl (upd_same _ _ _) rfl) ⟨fun d x hd => ?_, exV_conv (ho.frz (fun d hd => ?_) (fun d hd => ?_))⟩ ⟨(exV_mk _ _ _), rfl⟩
  ·obtain ⟨n1, n2, h⟩ := hσ d x hd
   rw [upd_ne _ _ n2, upd_ne _ _ n1]; exact ho.get (hle _ _ h)
  ·rw [upd_ne, upd_ne]
   ·intro e; subst e; rw [hle _ _ g1] at hd; cases hd
   ·intro e; subst e; rw [hle _ _ g2] at hd; cases hd
  ·cases hc : σ d with
   | none => rfl
   | some x => rw [hle _ _ (hσ d x hc).2.2] at hd; cases hd
theorem l05Copy_ok : ∀ e, ∀ {Γ σ : St}, sizeE e ≤ 1000000 → Ret Try.prog Γ 149 [exV e] σ (exV e) σ := by
 refine Ex.ind fun k n ks ih Γ σ hsz => ?_
 have hlen := sizeL_len ks
 simp only [sizeE] at hsz
 refine ret_of c149_ok rfl ?_
 simp (disch := omega) only [c149, exV_mk, go_sem]
 refine SRun.boxR (by simp [ev, look, V.cells, V.one]) ?_
 intro b1 hb1
 simp (disch := omega) only [go_sem]
 refine SRun.allocR ?_
 intro b2 hb2
 have n21 := (upd_none.1 hb2).1
 have hσ : ∀ d x, σ d = some x → d ≠ b1 ∧ d ≠ b2 ∧ upd (upd σ b1 [.int .i64 k, .int .i64 n, .isl false 3 (exsV ks)]) b2 [.int .i64 0, .int .i64 0, .isl true 0 []] d = some x := fun d x h => ⟨fun e => by (subst e; rw [hb1] at h; cases h), fun e => by (subst e; rw [(upd_none.1 hb2).2] at h; cases h), le_upd hb2 _ _ (le_upd hb1 _ _ h)⟩
 have g1 : upd (upd σ b1 [.int .i64 k, .int .i64 n, .isl false 3 (exsV ks)]) b2 [.int .i64 0, .int .i64 0, .isl true 0 []] b1 = some [.int .i64 k, .int .i64 n, .isl false 3 (exsV ks)] := by rw [upd_ne _ _ n21.symm, upd_same]
 have g2 := upd_same (upd σ b1 [.int .i64 k, .int .i64 n, .isl false 3 (exsV ks)]) b2 [.int .i64 0, .int .i64 0, .isl true 0 []]
 simp (disch := omega) only [g1, go_sem]
 generalize upd (upd σ b1 [.int .i64 k, .int .i64 n, .isl false 3 (exsV ks)]) b2 [.int .i64 0, .int .i64 0, .isl true 0 []] = A0 at *
 refine SRun.allocR ?_
 intro b3 hb3
 have n31 : b3 ≠ b1 := fun e => by subst e; rw [g1] at hb3; cases hb3
 have n32 : b3 ≠ b2 := fun e => by subst e; rw [g2] at hb3; cases hb3
 simp (disch := omega) only [go_sem]
 have own0 : OwnL (upd A0 b3 [.int .i64 k, .int .i64 n, .isl true 0 []]) 3 (exsV (ks.take 0)) (.isl true 0 []) (upd A0 b3 [.int .i64 k, .int .i64 n, .isl true 0 []]) := OwnL.nil _ _
 refine W_loopC (α := Nat × V × St) (fun p => p.1 ≤ ks.length ∧ OwnL (upd A0 b3 [.int .i64 k, .int .i64 n, p.2.1]) 3 (exsV (ks.take p.1)) p.2.1 p.2.2)
  (fun p => [(1, .ptr b1 0), (2, .ptr b2 0), (3, .ptr b3 0), (4, .int .i64 (p.1 : Nat))]) (fun p => p.2.2) (fun p => ks.length - p.1) (0, .isl true 0 [], _) ⟨by simp, own0⟩ (by simp (disch := omega) only [subT, Int.natCast_add, Int.cast_ofNat_Int, go_sem] <;> (repeat' apply And.intro) <;> first | rfl | (congr 1; omega) | assumption) rfl ?_
 rintro ⟨i, t, s⟩ ⟨hi, ho⟩ ih2
 dsimp only at hi ho
 have s1 := ho.get (b := b1) (c := [.int .i64 k, .int .i64 n, .isl false 3 (exsV ks)]) (by rw [upd_ne _ _ n31.symm]; exact g1)
 have s2 := ho.get (b := b2) (c := [.int .i64 0, .int .i64 0, .isl true 0 []]) (by rw [upd_ne _ _ n32.symm]; exact g2)
 have s3 := ho.get (upd_same _ b3 _)
 have ht1 := ho.one
 simp (disch := omega) only [s1, go_sem]
 first | refine iteW_dec (fun hq => ?_) (fun hq => ?_) | refine iteW_of (fun hq => ?_) (fun hq => ?_)
 ·have he := getD_mem default (by omega : i < ks.length)
  have hs2 := sizeL_mem he
  simp (disch := omega) only [go_sem]
  refine W_drawW ?_
  refine DRun.mixE rfl ?_
  simp (disch := omega) only [s1, s3, go_sem]
  refine DS.callB (ih _ he (by omega)) ⟨[], rfl, rfl⟩ rfl rfl ?_
  simp (disch := omega) only [go_sem]
  refine DRun.appL ho rfl (exs1_ok _) (by rw [exsV_len]; simp only [List.length_take, List.length_singleton]; omega) ?_
  intro t2 s4 ho3
  rw [exs_take (by omega)] at ho3
  have s43 := ho3.get (upd_same _ b3 _)
  simp (disch := omega) only [s43, ho3.one, ho3.cells, go_sem]
  have ho4 := ho3.upd (c' := [.int .i64 k, .int .i64 n, t2]) (upd_same _ b3 _)
  rw [upd_upd] at ho4
  exact ih2 (i + 1, t2, _) _ _ ⟨by simp only; omega, ho4⟩ (by simp only; omega) (by simp (disch := omega) only [subT, Int.natCast_add, Int.cast_ofNat_Int, go_sem] <;> (repeat' apply And.intro) <;> first | rfl | (congr 1; omega) | assumption) rfl
 ·have hik : i = ks.length := by omega
  rw [hik, List.take_length] at ho
  simp (disch := omega) only [s3, s2, ht1, ho.cells, go_sem]
  refine W_retC c149_ok (r := .agg [.int .i64 k, .int .i64 n, t]) (r' := exV (.mk k n ks)) (σ' := σ) (resV_cellA rfl (upd_same _ _ _) rfl) ⟨fun d x hd => ?_, exV_conv (ho.frz (fun d hd => ?_) (fun d hd => ?_))⟩ ⟨(exV_mk _ _ _), rfl⟩
  ·obtain ⟨n1, n2, h⟩ := hσ d x hd
   have n3 : d ≠ b3 := fun e => by subst e; rw [h] at hb3; cases hb3
   rw [upd_ne _ _ n2]; exact ho.get (by rw [upd_ne _ _ n3]; exact h)
  ·have hd := upd_none.1 hd
   rw [upd_ne]
   intro e; subst e; rw [g2] at hd; cases hd.2
  ·have hd := upd_none.1 hd
   cases hc : σ d with
   | none => rfl
   | some x => rw [(hσ d x hc).2.2] at hd; cases hd.2
end
section
variable {Γ : St} {σ σ0 : St}
section
variable {P : Program} {f : FuncId} {n : Nat} {Q : V → St → Prop} {k : List It} {T : Ts}
theorem DRun.mixNR {t : DT} {segs : List DT} (R : Ts → St → Prop) (hr : rdOK t = true) (h : DSW P Γ σ t T emp R) (hk : ∀ T s, R T s → WD P Γ f n Q k segs T (cup s σ)) : DRun P Γ f n Q (t :: segs) k T σ :=
 ⟨emp, σ, disj_emp_left _, (emp_cup _).symm, DS.mono (fun T s hR => (hk T s hR).sound) (DS.of hr h)⟩
end
attribute [local irreducible] SRun DS DRun
/-- That the first of some bits are less than others. -/
def lessE (us ws : List Ex) : Nat → Ex
 | 0 => constE 0
 | i + 1 => nodeE 5 [nodeE 4 [nodeE 3 [us.getD i default], ws.getD i default], nodeE 4 [nodeE 3 [nodeE 6 [us.getD i default, ws.getD i default]], lessE us ws i]]
set_option maxHeartbeats 1000000 in
theorem lessEx_ok {ea eb : Bool} {us ws : List Ex} (hl : us.length ≤ 1000) (hb : ws.length = us.length) : Ret Try.prog Γ 109 [.isl ea 3 (exsV us), .isl eb 3 (exsV ws)] σ (exV (lessE us ws us.length)) σ := by
 refine ret_of c109_ok rfl ?_
 simp (disch := omega) only [c109, go_sem]
 refine SRun.allocR ?_
 intro b4 hb4
 simp (disch := omega) only [go_sem]
 refine SRun.callR (constEx_ok (n := 0)) ⟨[], rfl, rfl⟩ rfl ?_
 simp (disch := omega) only [List.getD_cons_zero, List.getD_cons_succ, go_sem]
 refine SRun.allocR ?_
 intro b5 hb5
 have n54 := (upd_none.1 hb5).1
 simp (disch := omega) only [go_sem]
 have hσ : ∀ d x, σ d = some x → d ≠ b4 ∧ d ≠ b5 := fun d x h => ⟨fun e => by (subst e; rw [hb4] at h; cases h), fun e => by (subst e; rw [(upd_none.1 hb5).2] at h; cases h)⟩
 refine W_loopC (α := Nat) (fun i => i ≤ us.length) (fun i => [(0, .isl ea 3 (exsV us)), (1, .isl eb 3 (exsV ws)), (4, .ptr b4 0), (5, .ptr b5 0), (9, .int .i64 us.length), (10, .int .i64 (i : Nat))]) (fun i => upd (upd σ b4 [.int .i64 0, .int .i64 0, .isl true 0 []]) b5 (exC (lessE us ws i))) (fun i => us.length - i) 0 (by omega) (by simp (disch := omega) only [subT, Int.natCast_add, Int.cast_ofNat_Int, go_sem] <;> (repeat' apply And.intro) <;> first | rfl | (congr 1; omega) | assumption) rfl ?_
 intro i hi ih
 simp (disch := omega) only [go_sem]
 first | refine iteW_dec (fun hq => ?_) (fun hq => ?_) | refine iteW_of (fun hq => ?_) (fun hq => ?_)
 ·have hle : lessE us ws (i + 1) = nodeE 5 [nodeE 4 [nodeE 3 [us.getD i default], ws.getD i default], nodeE 4 [nodeE 3 [nodeE 6 [us.getD i default, ws.getD i default]], lessE us ws i]] := rfl
  simp (disch := omega) only [go_sem]
  refine W_drawW ?_
  refine DRun.mixE rfl ?_
  simp (disch := omega) only [go_sem]
  generalize us.getD i default = x at *
  generalize ws.getD i default = y at *
  generalize lessE us ws i = l at *
  refine DS.callB (implEx_ok (k := 3) (ks := [x]) (e := true)) ⟨[], rfl, rfl⟩ rfl rfl ?_
  simp (disch := omega) only [go_sem]
  refine DS.callB (implEx_ok (k := 4) (ks := [nodeE 3 [x], y]) (e := true)) ⟨[], rfl, rfl⟩ rfl rfl ?_
  simp (disch := omega) only [go_sem]
  refine DS.callB (implEx_ok (k := 6) (ks := [x, y]) (e := true)) ⟨[], rfl, rfl⟩ rfl rfl ?_
  simp (disch := omega) only [go_sem]
  refine DS.callB (implEx_ok (k := 3) (ks := [nodeE 6 [x, y]]) (e := true)) ⟨[], rfl, rfl⟩ rfl rfl ?_
  simp (disch := omega) only [go_sem]
  refine DRun.callQ (implEx_ok (k := 4) (ks := [nodeE 3 [nodeE 6 [x, y]], l]) (e := true)) ⟨[], rfl, rfl⟩ ?_
  rintro r s ⟨rfl, hs⟩
  obtain rfl := hs.symm
  simp (disch := omega) only [go_sem]
  refine DRun.callQ (implEx_ok (k := 5) (ks := [nodeE 4 [nodeE 3 [x], y], nodeE 4 [nodeE 3 [nodeE 6 [x, y]], l]]) (e := true)) ⟨[], rfl, rfl⟩ ?_
  rintro r s ⟨rfl, hs⟩
  obtain rfl := hs.symm
  simp (disch := omega) only [go_sem]
  refine ih (i + 1) _ _ (by omega) (by omega) (by simp (disch := omega) only [subT, Int.natCast_add, Int.cast_ofNat_Int, go_sem] <;> (repeat' apply And.intro) <;> first | rfl | (congr 1; omega) | assumption) ?_
  rw [hle]
 ·have hik : i = us.length := by omega
  have g4 : upd (upd σ b4 [.int .i64 0, .int .i64 0, .isl true 0 []]) b5 (exC (lessE us ws i)) b4 = some [.int .i64 0, .int .i64 0, .isl true 0 []] := by rw [upd_ne _ _ n54.symm, upd_same]
  simp (disch := omega) only [g4, go_sem]
  refine W_retC c109_ok (r := .agg (exC (lessE us ws i))) (r' := exV (lessE us ws i)) (σ' := σ) (resV_cellA rfl (upd_same _ _ _) (exC_len _).symm) ⟨fun d x hd => ?_, by rw [agg_exC]; exact .refl _⟩ ⟨by rw [hik], rfl⟩
  obtain ⟨n4, n5⟩ := hσ d x hd
  rw [upd_ne _ _ n4, upd_ne _ _ n5, upd_ne _ _ n4]; exact hd
def sizeB (us ws : List Ex) : Prop := (∀ e ∈ us, sizeE e ≤ 100000) ∧ ∀ e ∈ ws, sizeE e ≤ 100000
set_option maxHeartbeats 1000000 in
theorem l05Less_ok {ea eb : Bool} {us ws : List Ex} (hl : us.length ≤ 1000) (hb : ws.length = us.length) (hsz : sizeB us ws) : Ret Try.prog Γ 147 [.isl ea 3 (exsV us), .isl eb 3 (exsV ws)] σ (exV (lessE us ws us.length)) σ := by
 refine ret_of c147_ok rfl ?_
 simp (disch := omega) only [c147, go_sem]
 refine SRun.allocR ?_
 intro b4 hb4
 simp (disch := omega) only [go_sem]
 refine SRun.callR (l05Const_ok (n := 0)) ⟨[], rfl, rfl⟩ rfl ?_
 simp (disch := omega) only [List.getD_cons_zero, List.getD_cons_succ, go_sem]
 refine SRun.allocR ?_
 intro b5 hb5
 have n54 := (upd_none.1 hb5).1
 simp (disch := omega) only [go_sem]
 have hσ : ∀ d x, σ d = some x → d ≠ b4 ∧ d ≠ b5 ∧ upd (upd σ b4 [.int .i64 0, .int .i64 0, .isl true 0 []]) b5 (exC (constE 0)) d = some x := fun d x h => ⟨fun e => by (subst e; rw [hb4] at h; cases h), fun e => by (subst e; rw [(upd_none.1 hb5).2] at h; cases h), le_upd hb5 _ _ (le_upd hb4 _ _ h)⟩
 have g4 : upd (upd σ b4 [.int .i64 0, .int .i64 0, .isl true 0 []]) b5 (exC (constE 0)) b4 = some [.int .i64 0, .int .i64 0, .isl true 0 []] := by rw [upd_ne _ _ n54.symm, upd_same]
 have g5 := upd_same (upd σ b4 [.int .i64 0, .int .i64 0, .isl true 0 []]) b5 (exC (constE 0))
 generalize upd (upd σ b4 [.int .i64 0, .int .i64 0, .isl true 0 []]) b5 (exC (constE 0)) = A0 at *
 refine W_loopC (α := Nat × St) (fun p => p.1 ≤ us.length ∧ p.2 b4 = some [.int .i64 0, .int .i64 0, .isl true 0 []] ∧ p.2 b5 = some (exC (lessE us ws p.1)) ∧ ∀ d x, σ d = some x → p.2 d = some x) (fun p => [(0, .isl ea 3 (exsV us)), (1, .isl eb 3 (exsV ws)), (4, .ptr b4 0), (5, .ptr b5 0), (6, .int .i64 (p.1 : Nat))]) (fun p => p.2) (fun p => us.length - p.1) (0, A0) ⟨by simp, g4, g5, fun d x h => (hσ d x h).2.2⟩ (by simp (disch := omega) only [subT, Int.natCast_add, Int.cast_ofNat_Int, go_sem] <;> (repeat' apply And.intro) <;> first | rfl | (congr 1; omega) | assumption) rfl ?_
 rintro ⟨i, s2⟩ ⟨hi, h4, h5, hle2⟩ ih
 dsimp only at hi h4 h5 hle2
 simp (disch := omega) only [go_sem]
 first | refine iteW_dec (fun hq => ?_) (fun hq => ?_) | refine iteW_of (fun hq => ?_) (fun hq => ?_)
 ·have hle : lessE us ws (i + 1) = nodeE 5 [nodeE 4 [nodeE 3 [us.getD i default], ws.getD i default], nodeE 4 [nodeE 3 [nodeE 6 [us.getD i default, ws.getD i default]], lessE us ws i]] := rfl
  have hx : sizeE (us.getD i default) ≤ 1000000 := by have := hsz.1 _ (getD_mem default (by omega : i < us.length)); omega
  have hy : sizeE (ws.getD i default) ≤ 1000000 := by have := hsz.2 _ (getD_mem default (by omega : i < ws.length)); omega
  generalize hgx : us.getD i default = x at *
  generalize hgy : ws.getD i default = y at *
  simp (disch := omega) only [go_sem]
  rw [W_draw]
  refine DRun.start (DRun.mixNR (fun T s => ∃ b7, s2 b7 = none ∧ s = upd emp b7 [.int .i64 0, .int .i64 0, .isl true 0 []] ∧ look T 0 = .isl ea 3 (exsV us) ∧ look T 1 = .isl eb 3 (exsV ws) ∧ look T 4 = .ptr b4 0 ∧ look T 5 = .ptr b5 0 ∧ look T 6 = .int .i64 (i : Nat) ∧ look T 7 = .ptr b7 0 ∧ look T 28 = exV (nodeE 3 [nodeE 6 [x, y]])) rfl ?_ ?_)
  ·simp (disch := omega) only [hgx, hgy, go_sem]
   refine DS.wr2 (WrF.call (l05Copy_ok x hx) ⟨[], rfl, rfl⟩) rfl ?_ ?_
   ·rintro r s ⟨rfl, hs⟩ hd
    obtain rfl := hs.symm
    simp (disch := omega) only [go_sem]
    refine DS.wr2 (WrF.call (l05Copy_ok y hy) ⟨[], rfl, rfl⟩) rfl ?_ ?_
    ·rintro r s ⟨rfl, hs⟩ hd
     obtain rfl := hs.symm
     simp (disch := omega) only [go_sem]
     refine DS.wr2 (WrF.call (l05Ex_ok (k := 6) (ks := [x, y]) (e := true)) ⟨[], rfl, rfl⟩) rfl ?_ ?_
     ·rintro r s ⟨rfl, hs⟩ hd
      obtain rfl := hs.symm
      simp (disch := omega) only [go_sem]
      refine DS.wr2 (WrF.call (l05Ex_ok (k := 3) (ks := [nodeE 6 [x, y]]) (e := true)) ⟨[], rfl, rfl⟩) rfl ?_ ?_
      ·rintro r s ⟨rfl, hs⟩ hd
       obtain rfl := hs.symm
       simp (disch := omega) only [go_sem]
       refine DS.wrQ WrF.alloc rfl ?_
       rintro _ s3 ⟨b7, hb7, rfl, rfl⟩ hd2
       exact ⟨b7, disj_new hd2, rfl, rfl, rfl, rfl, rfl, rfl, rfl, rfl⟩
      ·refine DS.wrQ WrF.alloc rfl ?_
       rintro _ s3 ⟨b7, hb7, rfl, rfl⟩ hd2
       simp (disch := omega) only [go_sem]
       refine DS.wrQ (WrF.call (l05Ex_ok (k := 3) (ks := [nodeE 6 [x, y]]) (e := true)) ⟨[], rfl, rfl⟩) rfl ?_
       rintro r s ⟨rfl, hs⟩ hd
       obtain rfl := hs.symm
       exact ⟨b7, disj_new hd2, rfl, rfl, rfl, rfl, rfl, rfl, rfl, rfl⟩
     ·refine DS.wrQ WrF.alloc rfl ?_
      rintro _ s3 ⟨b7, hb7, rfl, rfl⟩ hd2
      simp (disch := omega) only [go_sem]
      refine DS.wrQ (WrF.call (l05Ex_ok (k := 6) (ks := [x, y]) (e := true)) ⟨[], rfl, rfl⟩) rfl ?_
      rintro r s ⟨rfl, hs⟩ hd
      obtain rfl := hs.symm
      simp (disch := omega) only [go_sem]
      refine DS.wrQ (WrF.call (l05Ex_ok (k := 3) (ks := [nodeE 6 [x, y]]) (e := true)) ⟨[], rfl, rfl⟩) rfl ?_
      rintro r s ⟨rfl, hs⟩ hd
      obtain rfl := hs.symm
      exact ⟨b7, disj_new hd2, rfl, rfl, rfl, rfl, rfl, rfl, rfl, rfl⟩
    ·refine DS.wrQ WrF.alloc rfl ?_
     rintro _ s3 ⟨b7, hb7, rfl, rfl⟩ hd2
     simp (disch := omega) only [go_sem]
     refine DS.wrQ (WrF.call (l05Copy_ok y hy) ⟨[], rfl, rfl⟩) rfl ?_
     rintro r s ⟨rfl, hs⟩ hd
     obtain rfl := hs.symm
     simp (disch := omega) only [go_sem]
     refine DS.wrQ (WrF.call (l05Ex_ok (k := 6) (ks := [x, y]) (e := true)) ⟨[], rfl, rfl⟩) rfl ?_
     rintro r s ⟨rfl, hs⟩ hd
     obtain rfl := hs.symm
     simp (disch := omega) only [go_sem]
     refine DS.wrQ (WrF.call (l05Ex_ok (k := 3) (ks := [nodeE 6 [x, y]]) (e := true)) ⟨[], rfl, rfl⟩) rfl ?_
     rintro r s ⟨rfl, hs⟩ hd
     obtain rfl := hs.symm
     exact ⟨b7, disj_new hd2, rfl, rfl, rfl, rfl, rfl, rfl, rfl, rfl⟩
   ·refine DS.wrQ WrF.alloc rfl ?_
    rintro _ s3 ⟨b7, hb7, rfl, rfl⟩ hd2
    simp (disch := omega) only [go_sem]
    refine DS.wrQ (WrF.call (l05Copy_ok x hx) ⟨[], rfl, rfl⟩) rfl ?_
    rintro r s ⟨rfl, hs⟩ hd
    obtain rfl := hs.symm
    simp (disch := omega) only [go_sem]
    refine DS.wrQ (WrF.call (l05Copy_ok y hy) ⟨[], rfl, rfl⟩) rfl ?_
    rintro r s ⟨rfl, hs⟩ hd
    obtain rfl := hs.symm
    simp (disch := omega) only [go_sem]
    refine DS.wrQ (WrF.call (l05Ex_ok (k := 6) (ks := [x, y]) (e := true)) ⟨[], rfl, rfl⟩) rfl ?_
    rintro r s ⟨rfl, hs⟩ hd
    obtain rfl := hs.symm
    simp (disch := omega) only [go_sem]
    refine DS.wrQ (WrF.call (l05Ex_ok (k := 3) (ks := [nodeE 6 [x, y]]) (e := true)) ⟨[], rfl, rfl⟩) rfl ?_
    rintro r s ⟨rfl, hs⟩ hd
    obtain rfl := hs.symm
    exact ⟨b7, disj_new hd2, rfl, rfl, rfl, rfl, rfl, rfl, rfl, rfl⟩
  rintro T _ ⟨b7, hb7, rfl, t0, t1, t4, t5, t6, t7, t28⟩
  rw [cup_new]
  have n75 : b7 ≠ b5 := fun e => by subst e; rw [h5] at hb7; cases hb7
  have n74 : b7 ≠ b4 := fun e => by subst e; rw [h4] at hb7; cases hb7
  simp (disch := omega) only [t28, t7, go_sem]
  rw [W_draw]
  refine SRun.freeze (T' := [(0, .isl ea 3 (exsV us)), (1, .isl eb 3 (exsV ws)), (4, .ptr b4 0), (5, .ptr b5 0), (6, .int .i64 (i : Nat)), (7, .ptr b7 0)]) (σ' := upd s2 b7 (exC (nodeE 3 [nodeE 6 [x, y]]))) (fun _ _ h => h) ⟨?_, ?_, ?_, ?_, ?_, ?_, trivial⟩ ?_
  ·rw [t0]; exact .refl _
  ·rw [t1]; exact .refl _
  ·rw [t4]; exact .refl _
  ·rw [t5]; exact .refl _
  ·rw [t6]; exact .refl _
  ·rw [t7]; exact .refl _
  clear t0 t1 t4 t5 t6 t7 t28 T
  have k5 := le_upd (cs := exC (nodeE 3 [nodeE 6 [x, y]])) hb7 _ _ h5
  have k4 := le_upd (cs := exC (nodeE 3 [nodeE 6 [x, y]])) hb7 _ _ h4
  have k7 := upd_same s2 b7 (exC (nodeE 3 [nodeE 6 [x, y]]))
  have kσ : ∀ d x', σ d = some x' → upd s2 b7 (exC (nodeE 3 [nodeE 6 [x, y]])) d = some x' := fun d x' h => le_upd hb7 _ _ (hle2 _ _ h)
  generalize upd s2 b7 (exC (nodeE 3 [nodeE 6 [x, y]])) = s3 at *
  refine DRun.start (DRun.mixE rfl ?_)
  simp (disch := omega) only [k5, k7, hgx, hgy, go_sem]
  generalize lessE us ws i = l at *
  refine DS.callB (l05Copy_ok x hx) ⟨[], rfl, rfl⟩ rfl rfl ?_
  simp (disch := omega) only [go_sem]
  refine DS.callB (l05Ex_ok (k := 3) (ks := [x]) (e := true)) ⟨[], rfl, rfl⟩ rfl rfl ?_
  simp (disch := omega) only [go_sem]
  refine DS.callB (l05Copy_ok y hy) ⟨[], rfl, rfl⟩ rfl rfl ?_
  simp (disch := omega) only [go_sem]
  refine DS.callB (l05Ex_ok (k := 4) (ks := [nodeE 3 [x], y]) (e := true)) ⟨[], rfl, rfl⟩ rfl rfl ?_
  simp (disch := omega) only [go_sem]
  refine DRun.callQ (l05Ex_ok (k := 4) (ks := [nodeE 3 [nodeE 6 [x, y]], l]) (e := true)) ⟨[], rfl, rfl⟩ ?_
  rintro r s ⟨rfl, hs⟩
  obtain rfl := hs.symm
  simp (disch := omega) only [go_sem]
  refine DRun.callQ (l05Ex_ok (k := 5) (ks := [nodeE 4 [nodeE 3 [x], y], nodeE 4 [nodeE 3 [nodeE 6 [x, y]], l]]) (e := true)) ⟨[], rfl, rfl⟩ ?_
  rintro r s ⟨rfl, hs⟩
  obtain rfl := hs.symm
  simp (disch := omega) only [k5, go_sem]
  have n45 : b4 ≠ b5 := n54.symm
  refine ih (i + 1, upd s3 b5 (exC (nodeE 5 [nodeE 4 [nodeE 3 [x], y], nodeE 4 [nodeE 3 [nodeE 6 [x, y]], l]]))) _ _ ⟨by simp only; omega, by simp only; rw [upd_ne _ _ n45]; exact k4, by simp only; rw [hle]; exact upd_same _ _ _, fun d x' h => by simp only; rw [upd_ne _ _ (hσ d x' h).2.1]; exact kσ _ _ h⟩ (by simp only; omega) (by simp (disch := omega) only [subT, Int.natCast_add, Int.cast_ofNat_Int, go_sem] <;> (repeat' apply And.intro) <;> first | rfl | (congr 1; omega) | assumption) rfl
 ·have hik : i = us.length := by omega
  simp (disch := omega) only [h4, h5, go_sem]
  refine W_retC c147_ok (r := .agg (exC (lessE us ws i))) (r' := exV (lessE us ws i)) (σ' := σ) (resV_cellA rfl (upd_same _ _ _) (exC_len _).symm) ⟨fun d x hd => ?_, by rw [agg_exC]; exact .refl _⟩ ⟨by rw [hik], rfl⟩
  obtain ⟨n4, n5, _⟩ := hσ d x hd
  rw [upd_ne _ _ n4]; exact hle2 _ _ hd
end
section
/-- A bit of a number. -/
def bitI (x : Int) (i : Nat) : Int := bitsV .and .i64 (x.fdiv (2 ^ min i 64)) 1
/-- What is asked of an expression of a word. -/
structure Fine (S D : Nat) (e : Ex) : Prop where
 right : rightE e = true
 most : mostE e ≤ 11
 size : sizeE e ≤ S
 depth : depthE e ≤ D
theorem Fine.mono {S D S' D' : Nat} {e : Ex} (h : Fine S D e) (hs : S ≤ S') (hd : D ≤ D') : Fine S' D' e := ⟨h.right, h.most, Nat.le_trans h.size hs, Nat.le_trans h.depth hd⟩
theorem Fine.const {n : Int} (h0 : 0 ≤ n) (h1 : n ≤ 1) : Fine 1 1 (constE n) := by
 refine ⟨?_, ?_, ?_, ?_⟩
 ·simp [constE, rightE, numOK, arity, rightL]; omega
 ·simp [constE, mostE, mostL]
 ·simp [constE, sizeE, sizeL]
 ·simp [constE, depthE, depthL]
theorem Fine.var {n : Int} (h0 : 0 ≤ n) (h1 : n ≤ 11) : Fine 1 1 (varE n) := by
 refine ⟨?_, ?_, ?_, ?_⟩
 ·simp [varE, rightE, numOK, arity, rightL]; omega
 ·simp [varE, mostE, mostL]; omega
 ·simp [varE, sizeE, sizeL]
 ·simp [varE, depthE, depthL]
theorem Fine.node1 {S D : Nat} {a : Ex} (h : Fine S D a) : Fine (1 + S) (1 + D) (nodeE 3 [a]) := by
 obtain ⟨h1, h2, h3, h4⟩ := h
 refine ⟨?_, ?_, ?_, ?_⟩
 ·simp [nodeE, rightE, numOK, arity, rightL, h1]
 ·simp only [nodeE, mostE, mostL, Int.reduceEq, ↓reduceIte]; omega
 ·simp only [nodeE, sizeE, sizeL]; omega
 ·simp only [nodeE, depthE, depthL]; omega
theorem Fine.node2 {k : Int} {S D S' D' : Nat} {a b : Ex} (hk : k = 4 ∨ k = 5 ∨ k = 6) (h : Fine S D a) (h' : Fine S' D' b) : Fine (1 + S + S') (1 + max D D') (nodeE k [a, b]) := by
 obtain ⟨h1, h2, h3, h4⟩ := h
 obtain ⟨g1, g2, g3, g4⟩ := h'
 refine ⟨?_, ?_, ?_, ?_⟩
 ·rcases hk with rfl | rfl | rfl <;> simp [nodeE, rightE, numOK, arity, rightL, h1, g1]
 ·simp only [nodeE, mostE, mostL]; rw [if_neg (by omega)]; omega
 ·simp only [nodeE, sizeE, sizeL]; omega
 ·simp only [nodeE, depthE, depthL]; omega
end
section
attribute [local irreducible] SRun DS DRun
variable {Γ : St} {σ σ0 : St}
section
variable {P : Program} {f : FuncId} {n : Nat} {Q : V → St → Prop} {k : List It} {T : Ts} {g : GI} {l : List GI}
theorem stepW_iaddr_p0 {ex : Bool} {es : Nat} {x y : V} {kk : IntKind} : stepW P Γ f n Q (.iaddr es (.c (.isl ex es [x, y])) (.c (.int kk 0))) g l k T σ = W P Γ f n Q (.ops l :: k) (putT T g.d (.iptr x.cells)) σ := by simp [stepW_iaddr_isl]
theorem stepW_iaddr_p1 {ex : Bool} {es : Nat} {x y : V} {kk : IntKind} : stepW P Γ f n Q (.iaddr es (.c (.isl ex es [x, y])) (.c (.int kk 1))) g l k T σ = W P Γ f n Q (.ops l :: k) (putT T g.d (.iptr y.cells)) σ := by simp [stepW_iaddr_isl]
theorem stepK_iaddr_p0 {K : V → St → Prop} {ex : Bool} {es : Nat} {x y : V} {kk : IntKind} : stepK (.iaddr es (.c (.isl ex es [x, y])) (.c (.int kk 0))) σ K = K (.iptr x.cells) σ := by simp [stepK_iaddr_isl]
theorem stepK_iaddr_p1 {K : V → St → Prop} {ex : Bool} {es : Nat} {x y : V} {kk : IntKind} : stepK (.iaddr es (.c (.isl ex es [x, y])) (.c (.int kk 1))) σ K = K (.iptr y.cells) σ := by simp [stepK_iaddr_isl]
end
attribute [go_sem] stepW_iaddr_p0 stepW_iaddr_p1 stepK_iaddr_p0 stepK_iaddr_p1
theorem frzL_app {σ σ' : St} : ∀ {a b c d : List V}, frzL σ σ' a b → frzL σ σ' c d → frzL σ σ' (a ++ c) (b ++ d) := by
 intro a
 induction a with
 | nil => intro b c d h h2; cases b with | nil => exact h2 | cons y q => exact h.elim
 | cons x r ih => intro b c d h h2; cases b with | nil => exact h.elim | cons y q => exact ⟨h.1, ih h.2 h2⟩
def RowF (A : St) (es : Nat) (xs : List V) (t : V) (s : St) : Prop := ∃ ys, OwnL A es ys t s ∧ ys.length = xs.length ∧ ∀ σ σ', frzL σ σ' (flat ys) (flat xs)
theorem RowF.nil {A : St} {es es' : Nat} : RowF A es [] (.isl true es' []) A := ⟨[], OwnL.nil _ _, rfl, fun _ _ => trivial⟩
theorem RowF.frz {A s s2 σ : St} {es : Nat} {xs : List V} {t : V} (h : RowF A es xs t s) (hx : ∀ x ∈ xs, x.cells.length = es ∧ ∀ c ∈ x.cells, c.one = true) (h2 : ∀ b, A b = none → s2 b = s b) (h3 : ∀ b, A b = none → σ b = none) : Frz s2 σ t (.isl false es xs) := by
 obtain ⟨ys, ho, hl, hf⟩ := h
 have hfl : (flat xs).length = xs.length * es := flat_length fun x hm => (hx x hm).1
 have hfl2 := ho.flat_len
 rcases ho.1 with ⟨hc, hl2, rfl, es', rfl⟩ | ⟨b2, cap, hb, rfl, rfl, h4⟩
 ·have : xs = [] := List.eq_nil_of_length_eq_zero (by omega)
  subst this
  exact .isl0 _ _ _ _ (fun h => by cases h)
 ·refine .msl b2 es 0 _ cap (flat ys) xs (by rw [h2 b2 hb, upd_same]) (h3 b2 hb) (by omega) hl.symm (fun x hm => (hx x hm).1) (by rw [hfl, hl]) (fun i x hi => flat_ones (fun x hm => (hx x hm).2) x (List.mem_of_getElem? hi)) (fun i x y hy hx' => ?_)
  rw [Nat.zero_add] at hy
  exact frzL_get (hf _ _) i y x hy hx'
theorem constBits_ok {n : Int} {m : Nat} (hm : m ≤ 60) : Ret Try.prog Γ 110 [.int .i64 n, .int .i64 m] σ (.isl false 3 (exsV ((List.range m).map fun i => constE (bitI n i)))) σ := by
 refine ret_of c110_ok rfl ?_
 simp (disch := omega) only [c110, go_sem]
 refine W_loopC (α := Nat × V × St) (fun p => p.1 ≤ m ∧ OwnL σ 3 (exsV ((List.range p.1).map fun i => constE (bitI n i))) p.2.1 p.2.2) (fun p => [(0, .int .i64 n), (5, p.2.1), (7, .int .i64 m), (8, .int .i64 (p.1 : Nat))]) (fun p => p.2.2) (fun p => m - p.1) (0, .isl true 0 [], σ) ⟨by simp, OwnL.nil _ _⟩ (by simp (disch := omega) only [subT, Int.natCast_add, Int.cast_ofNat_Int, go_sem] <;> (repeat' apply And.intro) <;> first | rfl | (congr 1; omega) | assumption) rfl ?_
 rintro ⟨i, t, s⟩ ⟨hi, ho⟩ ih
 dsimp only at hi ho
 simp (disch := omega) only [go_sem]
 first | refine iteW_dec (fun hq => ?_) (fun hq => ?_) | refine iteW_of (fun hq => ?_) (fun hq => ?_)
 ·simp (disch := omega) only [go_sem]
  refine SRun.callR (constEx_ok (n := bitI n i)) ⟨[], rfl, rfl⟩ rfl ?_
  simp (disch := omega) only [List.getD_cons_zero, List.getD_cons_succ, go_sem]
  refine SRun.appL ho rfl (exs1_ok _) (by rw [exsV_len, List.length_map, List.length_range]; simp only [List.length_singleton]; omega) ?_
  intro t2 s2 ho2
  rw [exs_app, show (List.range i).map (fun i => constE (bitI n i)) ++ [constE (bitI n i)] = (List.range (i + 1)).map (fun i => constE (bitI n i)) by simp [List.range_succ]] at ho2
  simp (disch := omega) only [go_sem]
  exact ih (i + 1, t2, s2) _ _ ⟨by simp only; omega, ho2⟩ (by simp only; omega) (by simp (disch := omega) only [subT, Int.natCast_add, Int.cast_ofNat_Int, go_sem] <;> (repeat' apply And.intro) <;> first | rfl | (congr 1; omega) | assumption) rfl
 ·obtain rfl : i = m := by omega
  simp (disch := omega) only [go_sem]
  exact W_retC c110_ok (r := t) (r' := .isl false 3 (exsV ((List.range i).map fun i => constE (bitI n i)))) (σ' := σ) rfl ho.conv ⟨rfl, rfl⟩
theorem rawVar_ok (m : Int) : ∀ y ∈ [V.agg [.int .i64 1, .int .i64 m, .isl true 0 []]], y.cells.length = 3 ∧ ∀ c ∈ y.cells, c.one = true := by
 intro y hy; rw [List.mem_singleton.1 hy]; simp [V.cells, V.one]
theorem flat_app1 (xs : List V) (y : V) : flat (xs ++ [y]) = flat xs ++ y.cells := by simp [flat]
theorem rawVar_frz {σ σ' : St} (m : Int) : frzL σ σ' (V.agg [.int .i64 1, .int .i64 m, .isl true 0 []]).cells (exV (varE m)).cells := by
 rw [cells_exV]
 exact ⟨.refl _, .refl _, frz_nil _ _, trivial⟩
end
end Go.Proofs.Ytlidjjjpjndneaa.Lg
