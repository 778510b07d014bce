/- What is told of the functions that are reached, as far as it is asked here. -/
import Derived.Test.YtabelcohkpmpnaaGreatKy3
import Derived.KernelRfl
set_option linter.unusedSimpArgs false
set_option linter.unusedVariables false
namespace Go.Proofs.YtabelcohkpmpnaaGreat.Lg
open Go
section
attribute [local irreducible] SRun DS DRun
variable {Γ : St} {σ σ0 : St}
/-- A list that was written down, or one that was made. -/
def PathO (σ0 : St) (es : Nat) (xs : List V) (q : V) (σ : St) : Prop := (q = .isl true es xs ∧ σ = σ0 ∧ ∀ x ∈ xs, x.cells.length = es ∧ ∀ c ∈ x.cells, c.one = true) ∨ OwnL σ0 es xs q σ
section
variable {es : Nat} {xs ys : List V} {q : V}
theorem PathO.get (h : PathO σ0 es xs q σ) {b : Nat} {c : List V} (hb : σ0 b = some c) : σ b = some c := by
 rcases h with ⟨_, rfl, _⟩ | h
 ·exact hb
 ·exact h.get hb
theorem PathO.upd (h : PathO σ0 es xs q σ) {b : Nat} {c c' : List V} (hb : σ0 b = some c) : PathO (upd σ0 b c') es xs q (upd σ b c') := by
 rcases h with ⟨h1, rfl, h3⟩ | h
 ·exact .inl ⟨h1, rfl, h3⟩
 ·exact .inr (h.upd hb)
theorem PathO.one (h : PathO σ0 es xs q σ) : q.one = true := by
 rcases h with ⟨rfl, _, _⟩ | h
 ·rfl
 ·exact h.one
theorem PathO.cells (h : PathO σ0 es xs q σ) : q.cells = [q] := by
 rcases h with ⟨rfl, _, _⟩ | h
 ·rfl
 ·exact h.cells
theorem PathO.less {σ1 s : St} (h : PathO σ1 es xs q s) (hle : ∀ b c, σ b = some c → σ1 b = some c) : ∃ s2, (∀ b c, s2 b = some c → s b = some c) ∧ PathO σ es xs q s2 := by
 rcases h with ⟨h1, rfl, h3⟩ | h
 ·exact ⟨σ, hle, .inl ⟨h1, rfl, h3⟩⟩
 ·obtain ⟨s2, h1, h2⟩ := ownL_less h hle
  exact ⟨s2, h1, .inr h2⟩
theorem PathO.le (h : PathO σ0 es xs q σ) : ∀ b c, σ0 b = some c → σ b = some c := fun b c hb => h.get hb
theorem PathO.frz (h : PathO σ0 es xs q σ) : Frz σ σ0 q (.isl false es xs) := by
 rcases h with ⟨rfl, rfl, h3⟩ | h
 ·exact .isl _ _ _
 ·exact h.conv.2
theorem PathO.len {P : Program} {f : FuncId} {n : Nat} {Q : V → St → Prop} {k : List It} {T : Ts} {g : GI} {l : List GI} (h : PathO σ0 es xs q σ) : stepW P Γ f n Q (.len (.c q)) g l k T σ = W P Γ f n Q (.ops l :: k) (putT T g.d (.int .i64 xs.length)) σ := by
 rcases h with ⟨rfl, _, _⟩ | h
 ·rw [stepW_len_isl]
 ·exact stepW_len_own h
theorem SRun.appP {P : Program} {f : FuncId} {n : Nat} {Q : V → St → Prop} {k : List It} {T : Ts} {l : List GI} {d : Option Nat} {by_ : Nat} {s x : Opd} {ex : Bool} (h : PathO σ0 es xs (ev Γ T s) σ) (hx : ev Γ T x = .isl ex es ys) (hne : ys ≠ []) (hy : ∀ y ∈ ys, y.cells.length = es ∧ ∀ c ∈ y.cells, c.one = true) (hfit : (xs.length + ys.length) * by_ ≤ 140737488355328)
  (hk : ∀ r σ', OwnL σ0 es (xs ++ ys) r σ' → W P Γ f n Q (.ops l :: k) (putT T d r) σ') : SRun P Γ f n (.ops (⟨d, none, .app es by_ s x⟩ :: l) :: k) T σ Q := by
 rcases h with ⟨he, rfl, h3⟩ | h
 ·have hfl : (flat ys).length = ys.length * es := flat_length fun x hm => (hy x hm).1
  have hfx : (flat xs).length = xs.length * es := flat_length fun x hm => (h3 x hm).1
  refine SRun.appR (old := flat xs) (sLen := xs.length) (by rw [he]; exact Base.isl xs es (.inr rfl)) (by rw [hx]; exact src_isl) (by simpa using hfit) (fun b2 cap2 hb2 hc2 => ?_) (fun h0 => absurd (List.eq_nil_of_length_eq_zero h0) hne)
  rw [he] at hb2 ⊢
  refine hk _ _ ⟨.inr ⟨b2, cap2, hb2, by rw [List.length_append], by rw [flat_append]; rfl, by rw [flat_append, List.length_append, List.length_append, hfl, hfx, Nat.add_mul], by rw [List.length_append]; exact hc2⟩, fun x hm => ?_⟩
  rcases List.mem_append.1 hm with hm | hm
  ·exact h3 x hm
  ·exact hy x hm
 ·exact SRun.appL h hx hy hfit hk
end
def walkV (w : Int × List Int) : V := .agg [.int .i64 w.1, .isl false 1 (ints w.2)]
set_option maxHeartbeats 1000000 in
theorem l08Walk_own {n : Net} {ex : Bool} {rs : List Rt} {from_ port : Int} (hf : n.filters.length ≤ 1000000000000) (hl : rs.length ≤ 1000000) (hv : ViasIn rs) (hi : ∀ v : Int, -3 ≤ (rtAt rs v).via) (h0 : 0 ≤ from_ ∧ from_ < rs.length) :
  ACalls Tryz.prog Γ 61 [netV n, .isl ex 4 (rtsV rs), .int .i64 from_, .int .i64 port] σ fun r s => ∃ q, r = .agg [.int .i64 (walkP n rs from_ port).1, q] ∧ PathO σ 1 (ints (walkP n rs from_ port).2) q s := by
 have hlen : (netC n).take 6 = netC n := rfl
 have hlen2 : (netC n).length = 6 := rfl
 refine acalls_W c61_ok rfl ?_
 simp (disch := omega) only [c61, netV, go_sem]
 refine SRun.boxR (net_one n) ?_
 intro b4 hb4
 simp (disch := omega) only [go_sem]
 refine SRun.allocR ?_
 intro b8 hb8
 have n8 := upd_none.1 hb8
 simp (disch := omega) only [go_sem]
 refine SRun.allocR ?_
 intro b9 hb9
 have n9 := upd_none.1 hb9
 have n9' := upd_none.1 n9.2
 simp (disch := omega) only [go_sem]
 have n48 : b4 ≠ b8 := n8.1.symm
 have n49 : b4 ≠ b9 := n9'.1.symm
 have n89 : b8 ≠ b9 := n9.1.symm
 have n98 : b9 ≠ b8 := n9.1
 have g4 : ∀ y z, upd (upd (upd σ b4 (netC n)) b8 y) b9 z b4 = some (netC n) := fun y z => by rw [upd_ne _ _ n49, upd_ne _ _ n48, upd_same]
 have g8 : ∀ y z, upd (upd (upd σ b4 (netC n)) b8 y) b9 z b8 = some y := fun y z => by rw [upd_ne _ _ n89, upd_same]
 have hσ : ∀ y z d x, σ d = some x → upd (upd (upd σ b4 (netC n)) b8 y) b9 z d = some x := fun y z d x h => by
  have e4 : d ≠ b4 := fun e => by subst e; rw [hb4] at h; cases h
  have e8 : d ≠ b8 := fun e => by subst e; rw [n8.2] at h; cases h
  have e9 : d ≠ b9 := fun e => by subst e; rw [n9'.2] at h; cases h
  rw [upd_ne _ _ e9, upd_ne _ _ e8, upd_ne _ _ e4]; exact h
 have hwp : walkP n rs from_ port = walkGo n rs port rs.length from_ [from_] := rfl
 refine W_loopC (α := Nat × Int × List Int × V × St) (fun p => p.1 ≤ rs.length ∧ (0 ≤ p.2.1 ∧ p.2.1 < rs.length) ∧ p.2.2.1.length ≤ p.1 + 1 ∧ walkP n rs from_ port = walkGo n rs port (rs.length - p.1) p.2.1 p.2.2.1 ∧ PathO (upd (upd (upd σ b4 (netC n)) b8 [.int .i64 0, .isl true 0 []]) b9 [.int .i64 0, p.2.2.2.1]) 1 (ints p.2.2.1) p.2.2.2.1 p.2.2.2.2) (fun p => [(1, .isl ex 4 (rtsV rs)), (3, .int .i64 port), (4, .ptr b4 0), (8, .ptr b8 0), (9, .ptr b9 0), (10, .int .i64 p.2.1), (11, .int .i64 (p.1 : Nat))]) (fun p => p.2.2.2.2) (fun p => rs.length - p.1) (0, from_, [from_], .isl true 1 [.int .i64 from_], _) ⟨by simp, h0, by simp, hwp, .inl ⟨rfl, rfl, ints1_ok from_⟩⟩ (by simp (disch := omega) only [subT, Int.natCast_add, Int.cast_ofNat_Int, go_sem] <;> (repeat' apply And.intro) <;> first | rfl | (congr 1; omega) | assumption) rfl ?_
 rintro ⟨i, at_, path, q, s⟩ ⟨hi1, hat, hpl, he, ho⟩ ih
 dsimp only at hi1 hat hpl he ho
 have g9' := ho.get (upd_same _ b9 _)
 have g8' := ho.get (g8 _ _)
 have g4' := ho.get (g4 _ _)
 have hq1 := ho.one
 have hqc := ho.cells
 have fin : ∀ (o : Int) (s2 : St), s2 = upd (upd s b9 [.int .i64 o, q]) b8 [.int .i64 o, q] → ∃ s3, (∀ d x, s3 d = some x → s2 d = some x) ∧ PathO σ 1 (ints path) q s3 := by
  rintro o _ rfl
  have h1 := ho.upd (c' := [.int .i64 o, q]) (upd_same _ b9 _)
  have h2 := h1.upd (b := b8) (c' := [.int .i64 o, q]) (by rw [upd_upd]; exact g8 _ _)
  refine h2.less fun d x h => ?_
  have e8 : d ≠ b8 := fun e => by subst e; rw [n8.2] at h; cases h
  rw [upd_ne _ _ e8, upd_upd]; exact hσ _ _ _ _ h
 simp (disch := omega) only [go_sem]
 first | refine iteW_dec (fun h1 => ?_) (fun h1 => ?_) | refine iteW_of (fun h1 => ?_) (fun h1 => ?_)
 ·obtain ⟨m, hm⟩ : ∃ m, rs.length - i = m + 1 := ⟨rs.length - i - 1, by omega⟩
  rw [hm, walkGo] at he
  have hrt : rs.getD at_.toNat default = rtAt rs at_ := rfl
  have hrt0 : ∀ r : Rt, (rtC r)[0]? = some (.int .i64 r.via) := fun _ => rfl
  have hvi := hv at_
  have hii := hi at_
  simp (disch := omega) only [hrt, hrt0, go_sem]
  generalize (rtAt rs at_).via = v at *
  first | refine iteW_dec (fun h2 => ?_) (fun h2 => ?_) | refine iteW_of (fun h2 => ?_) (fun h2 => ?_)
  ·rw [if_pos h2] at he
   rw [he]
   simp (disch := omega) only [g9', g8', n89, n98, hq1, hqc, go_sem]
   obtain ⟨s3, f1, f2⟩ := fin 1 _ rfl
   exact W_retC c61_ok (r := .agg [.int .i64 1, q]) (resV_cellA rfl (upd_same _ _ _) rfl) (Conv.drop _ f1) ⟨q, rfl, f2⟩
  rw [if_neg h2] at he
  simp (disch := omega) only [go_sem]
  first | refine iteW_dec (fun h3 => ?_) (fun h3 => ?_) | refine iteW_of (fun h3 => ?_) (fun h3 => ?_)
  ·rw [if_pos h3] at he
   rw [he]
   simp (disch := omega) only [g9', g8', n89, n98, hq1, hqc, go_sem]
   obtain ⟨s3, f1, f2⟩ := fin 2 _ rfl
   exact W_retC c61_ok (r := .agg [.int .i64 2, q]) (resV_cellA rfl (upd_same _ _ _) rfl) (Conv.drop _ f1) ⟨q, rfl, f2⟩
  rw [if_neg h3] at he
  simp (disch := omega) only [go_sem]
  first | refine iteW_dec (fun h4 => ?_) (fun h4 => ?_) | refine iteW_of (fun h4 => ?_) (fun h4 => ?_)
  ·rw [if_pos h4] at he
   rw [he]
   simp (disch := omega) only [g9', g8', n89, n98, hq1, hqc, go_sem]
   obtain ⟨s3, f1, f2⟩ := fin 3 _ rfl
   exact W_retC c61_ok (r := .agg [.int .i64 3, q]) (resV_cellA rfl (upd_same _ _ _) rfl) (Conv.drop _ f1) ⟨q, rfl, f2⟩
  rw [if_neg h4] at he
  simp (disch := omega) only [g4', hlen, hlen2, go_sem]
  refine SRun.callR (l08Filtered_ok (n := n) (at_ := at_) (to := v) (p := port) hf) ⟨[], rfl, rfl⟩ rfl ?_
  cases h5 : n.filters.any (filtB at_ v port) with
  | true =>
   rw [h5, if_pos rfl] at he
   rw [he]
   simp (disch := omega) only [g9', g8', n89, n98, hq1, hqc, go_sem]
   obtain ⟨s3, f1, f2⟩ := fin 4 _ rfl
   exact W_retC c61_ok (r := .agg [.int .i64 4, q]) (resV_cellA rfl (upd_same _ _ _) rfl) (Conv.drop _ f1) ⟨q, rfl, f2⟩
  | false =>
   rw [h5, if_neg (by simp)] at he
   simp (disch := omega) only [g9', go_sem]
   refine SRun.appP ho rfl (by simp) (ints1_ok v) (by simp only [ints_len, List.length_singleton]; omega) ?_
   intro q2 s2 ho2
   rw [ints_app] at ho2
   have ho3 := ho2.upd (c' := [.int .i64 0, q2]) (upd_same _ b9 _)
   rw [upd_upd] at ho3
   simp (disch := omega) only [ho2.get (upd_same _ b9 _), ho2.one, ho2.cells, go_sem]
   exact ih (i + 1, v, path ++ [v], q2, upd s2 b9 [.int .i64 0, q2]) _ _ ⟨by simp only; omega, ⟨by simp only; omega, by simp only; omega⟩, by simp only [List.length_append, List.length_singleton]; omega, by simp only; rw [he]; congr 1; omega, .inr ho3⟩ (by simp only; omega) (by simp (disch := omega) only [subT, Int.natCast_add, Int.cast_ofNat_Int, go_sem] <;> (repeat' apply And.intro) <;> first | rfl | (congr 1; omega) | assumption) rfl
 ·have hil : rs.length - i = 0 := by omega
  rw [hil, walkGo] at he
  rw [he]
  simp (disch := omega) only [g9', g8', n89, n98, hq1, hqc, go_sem]
  obtain ⟨s3, f1, f2⟩ := fin 3 _ rfl
  exact W_retC c61_ok (r := .agg [.int .i64 3, q]) (resV_cellA rfl (upd_same _ _ _) rfl) (Conv.drop _ f1) ⟨q, rfl, f2⟩
theorem PathO.inr' {es : Nat} {xs : List V} {q : V} (h : OwnL σ0 es xs q σ) : PathO σ0 es xs q σ := .inr h
set_option maxHeartbeats 1000000 in
theorem forward_own {n : Net} {ex : Bool} {rs : List Rt} {from_ port : Int} (hf : n.filters.length ≤ 1000000000000) (hl : rs.length ≤ 1000000) (hv : ViasIn rs) (hi : ∀ v : Int, -3 ≤ (rtAt rs v).via) (h0 : 0 ≤ from_ ∧ from_ < rs.length) (hr : rs.length = n.routers.length) :
  ACalls Tryz.prog Γ 54 [netV n, .isl ex 4 (rtsV rs), .int .i64 from_, .int .i64 port] σ fun r s => ∃ q, r = .agg [.int .i64 (walkP n rs from_ port).1, q] ∧ PathO σ 1 (ints (walkP n rs from_ port).2) q s := by
 have hlen : (netC n).take 6 = netC n := rfl
 have hlen2 : (netC n).length = 6 := rfl
 have e0 : (netC n)[0]? = some (.isl false 1 (strsV n.routers)) := rfl
 refine acalls_W c54_ok rfl ?_
 simp (disch := omega) only [c54, netV, go_sem]
 refine SRun.boxR (net_one n) ?_
 intro b4 hb4
 simp (disch := omega) only [go_sem]
 refine SRun.allocR ?_
 intro b8 hb8
 have n8 := upd_none.1 hb8
 simp (disch := omega) only [go_sem]
 refine SRun.allocR ?_
 intro b9 hb9
 have n9 := upd_none.1 hb9
 have n9' := upd_none.1 n9.2
 simp (disch := omega) only [go_sem]
 have n48 : b4 ≠ b8 := n8.1.symm
 have n49 : b4 ≠ b9 := n9'.1.symm
 have n89 : b8 ≠ b9 := n9.1.symm
 have n98 : b9 ≠ b8 := n9.1
 have g4 : ∀ y z, upd (upd (upd σ b4 (netC n)) b8 y) b9 z b4 = some (netC n) := fun y z => by rw [upd_ne _ _ n49, upd_ne _ _ n48, upd_same]
 have g8 : ∀ y z, upd (upd (upd σ b4 (netC n)) b8 y) b9 z b8 = some y := fun y z => by rw [upd_ne _ _ n89, upd_same]
 have hσ : ∀ y z d x, σ d = some x → upd (upd (upd σ b4 (netC n)) b8 y) b9 z d = some x := fun y z d x h => by
  have e4 : d ≠ b4 := fun e => by subst e; rw [hb4] at h; cases h
  have e8 : d ≠ b8 := fun e => by subst e; rw [n8.2] at h; cases h
  have e9 : d ≠ b9 := fun e => by subst e; rw [n9'.2] at h; cases h
  rw [upd_ne _ _ e9, upd_ne _ _ e8, upd_ne _ _ e4]; exact h
 have hwp : walkP n rs from_ port = walkGo n rs port rs.length from_ [from_] := rfl
 refine W_loopC (α := Nat × Int × List Int × V × St) (fun p => p.1 < rs.length ∧ (0 ≤ p.2.1 ∧ p.2.1 < rs.length) ∧ p.2.2.1.length = p.1 + 1 ∧ walkP n rs from_ port = walkGo n rs port (rs.length - p.1) p.2.1 p.2.2.1 ∧ PathO (upd (upd (upd σ b4 (netC n)) b8 [.int .i64 0, .isl true 0 []]) b9 [.int .i64 0, p.2.2.2.1]) 1 (ints p.2.2.1) p.2.2.2.1 p.2.2.2.2) (fun p => [(1, .isl ex 4 (rtsV rs)), (3, .int .i64 port), (4, .ptr b4 0), (8, .ptr b8 0), (9, .ptr b9 0), (10, .int .i64 p.2.1)]) (fun p => p.2.2.2.2) (fun p => rs.length - p.1) (0, from_, [from_], .isl true 1 [.int .i64 from_], _) ⟨by simp only; omega, h0, by simp, hwp, .inl ⟨rfl, rfl, ints1_ok from_⟩⟩ (by simp (disch := omega) only [subT, Int.natCast_add, Int.cast_ofNat_Int, go_sem] <;> (repeat' apply And.intro) <;> first | rfl | (congr 1; omega) | assumption) rfl ?_
 rintro ⟨i, at_, path, q, s⟩ ⟨hi1, hat, hpl, he, ho⟩ ih
 dsimp only at hi1 hat hpl he ho
 have g9' := ho.get (upd_same _ b9 _)
 have g8' := ho.get (g8 _ _)
 have g4' := ho.get (g4 _ _)
 have hq1 := ho.one
 have hqc := ho.cells
 have fin : ∀ (o : Int) (s2 : St), s2 = upd (upd s b9 [.int .i64 o, q]) b8 [.int .i64 o, q] → ∃ s3, (∀ d x, s3 d = some x → s2 d = some x) ∧ PathO σ 1 (ints path) q s3 := by
  rintro o _ rfl
  have h1 := ho.upd (c' := [.int .i64 o, q]) (upd_same _ b9 _)
  have h2 := h1.upd (b := b8) (c' := [.int .i64 o, q]) (by rw [upd_upd]; exact g8 _ _)
  refine h2.less fun d x h => ?_
  have e8 : d ≠ b8 := fun e => by subst e; rw [n8.2] at h; cases h
  rw [upd_ne _ _ e8, upd_upd]; exact hσ _ _ _ _ h
 simp (disch := omega) only [go_sem]
 ·obtain ⟨m, hm⟩ : ∃ m, rs.length - i = m + 1 := ⟨rs.length - i - 1, by omega⟩
  rw [hm, walkGo] at he
  have hrt : rs.getD at_.toNat default = rtAt rs at_ := rfl
  have hrt0 : ∀ r : Rt, (rtC r)[0]? = some (.int .i64 r.via) := fun _ => rfl
  have hvi := hv at_
  have hii := hi at_
  simp (disch := omega) only [hrt, hrt0, go_sem]
  generalize (rtAt rs at_).via = v at *
  first | refine iteW_dec (fun h2 => ?_) (fun h2 => ?_) | refine iteW_of (fun h2 => ?_) (fun h2 => ?_)
  ·rw [if_pos h2] at he
   rw [he]
   simp (disch := omega) only [g9', g8', n89, n98, hq1, hqc, go_sem]
   obtain ⟨s3, f1, f2⟩ := fin 1 _ rfl
   exact W_retC c54_ok (r := .agg [.int .i64 1, q]) (resV_cellA rfl (upd_same _ _ _) rfl) (Conv.drop _ f1) ⟨q, rfl, f2⟩
  rw [if_neg h2] at he
  simp (disch := omega) only [go_sem]
  first | refine iteW_dec (fun h3 => ?_) (fun h3 => ?_) | refine iteW_of (fun h3 => ?_) (fun h3 => ?_)
  ·rw [if_pos h3] at he
   rw [he]
   simp (disch := omega) only [g9', g8', n89, n98, hq1, hqc, go_sem]
   obtain ⟨s3, f1, f2⟩ := fin 2 _ rfl
   exact W_retC c54_ok (r := .agg [.int .i64 2, q]) (resV_cellA rfl (upd_same _ _ _) rfl) (Conv.drop _ f1) ⟨q, rfl, f2⟩
  rw [if_neg h3] at he
  simp (disch := omega) only [go_sem]
  first | refine iteW_dec (fun h4 => ?_) (fun h4 => ?_) | refine iteW_of (fun h4 => ?_) (fun h4 => ?_)
  ·rw [if_pos h4] at he
   rw [he]
   simp (disch := omega) only [g9', g8', n89, n98, hq1, hqc, go_sem]
   obtain ⟨s3, f1, f2⟩ := fin 3 _ rfl
   exact W_retC c54_ok (r := .agg [.int .i64 3, q]) (resV_cellA rfl (upd_same _ _ _) rfl) (Conv.drop _ f1) ⟨q, rfl, f2⟩
  rw [if_neg h4] at he
  simp (disch := omega) only [g4', hlen, hlen2, go_sem]
  refine SRun.callR (isFiltered_ok (n := n) (at_ := at_) (to := v) (p := port) hf) ⟨[], rfl, rfl⟩ rfl ?_
  cases h5 : n.filters.any (filtB at_ v port) with
  | true =>
   rw [h5, if_pos rfl] at he
   rw [he]
   simp (disch := omega) only [g9', g8', n89, n98, hq1, hqc, go_sem]
   obtain ⟨s3, f1, f2⟩ := fin 4 _ rfl
   exact W_retC c54_ok (r := .agg [.int .i64 4, q]) (resV_cellA rfl (upd_same _ _ _) rfl) (Conv.drop _ f1) ⟨q, rfl, f2⟩
  | false =>
   rw [h5, if_neg (by simp)] at he
   simp (disch := omega) only [g9', go_sem]
   refine SRun.appP ho rfl (by simp) (ints1_ok v) (by simp only [ints_len, List.length_singleton]; omega) ?_
   intro q2 s2 ho2
   rw [ints_app] at ho2
   have ho3 := ho2.upd (c' := [.int .i64 0, q2]) (upd_same _ b9 _)
   rw [upd_upd] at ho3
   have g42 := ho2.get (g4 _ _)
   have g82 := ho2.get (g8 _ _)
   have hpl2 : (path ++ [v]).length = path.length + 1 := by simp
   have hq21 := ho2.one
   have hq2c := ho2.cells
   simp (disch := omega) only [ho2.get (upd_same _ b9 _), hq21, hq2c, stepW_len_own ho3, g42, n49, e0, ints_len, hpl2, go_sem]
   by_cases h6 : rs.length = i + 1
   ·have d6 : decide (((path.length + 1 : Nat) : Int) > n.routers.length) = true := decide_eq_true (by omega)
    have d6' : decide ((path.length : Int) + 1 > n.routers.length) = true := decide_eq_true (by omega)
    have hm0 : m = 0 := by omega
    rw [hm0, walkGo] at he
    rw [he]
    simp (disch := omega) only [d6, d6', g82, n89, n98, hq21, hq2c, go_sem]
    have h2 := (PathO.inr' ho3).upd (c' := [.int .i64 3, q2]) (upd_same _ b9 _)
    rw [upd_upd, upd_upd] at h2
    have h3 := h2.upd (b := b8) (c' := [.int .i64 3, q2]) (g8 _ _)
    obtain ⟨s3, f1, f2⟩ := h3.less (σ := σ) fun d x h => by
     have e8 : d ≠ b8 := fun e => by subst e; rw [n8.2] at h; cases h
     rw [upd_ne _ _ e8]; exact hσ _ _ _ _ h
    exact W_retC c54_ok (r := .agg [.int .i64 3, q2]) (resV_cellA rfl (upd_same _ _ _) rfl) (Conv.drop _ f1) ⟨q2, rfl, f2⟩
   ·have d6 : decide (((path.length + 1 : Nat) : Int) > n.routers.length) = false := decide_eq_false (by omega)
    have d6' : decide ((path.length : Int) + 1 > n.routers.length) = false := decide_eq_false (by omega)
    simp (disch := omega) only [d6, d6', go_sem]
    exact ih (i + 1, v, path ++ [v], q2, upd s2 b9 [.int .i64 0, q2]) _ _ ⟨by simp only; omega, ⟨by simp only; omega, by simp only; omega⟩, by simp only [List.length_append, List.length_singleton]; omega, by simp only; rw [he]; congr 1; omega, .inr ho3⟩ (by simp only; omega) (by simp (disch := omega) only [subT, Int.natCast_add, Int.cast_ofNat_Int, go_sem] <;> (repeat' apply And.intro) <;> first | rfl | (congr 1; omega) | assumption) rfl
end
section
attribute [local irreducible] SRun DS DRun
variable {Γ : St} {σ σ0 : St}
def propC (k f p w : Int) : List V := [.int .i64 k, .int .i64 f, .int .i64 p, .int .i64 w]
def propB (n : Net) (k f p w : Int) : Bool := netB n && inB k 1 4 && routerB n.routers.length f && inB p (-1) 15 && (if k = 3 then routerB n.routers.length w else decide (w = 0))
theorem prop_one (k f p w : Int) : ∀ c ∈ (V.agg (propC k f p w)).cells, c.one = true := by simp [propC, V.cells, V.one]
theorem isProperty_ok {n : Net} (hn : NetLen n) {kd f p w : Int} : Ret Tryz.prog Γ 39 [netV n, .agg (propC kd f p w)] σ (.bool (propB n kd f p w)) σ := by
 have hlen : (netC n).take 6 = netC n := rfl
 have hlen2 : (netC n).length = 6 := rfl
 have hin : ∀ a b c, (decide (b ≤ a) && decide (a ≤ c)) = inB a b c := fun _ _ _ => rfl
 refine ret_of c39_ok rfl ?_
 simp (disch := omega) only [c39, netV, go_sem]
 refine SRun.boxR (net_one n) ?_
 intro b1 hb1
 have g1 := upd_same σ b1 (netC n)
 have hσ : ∀ d y, σ d = some y → upd σ b1 (netC n) d = some y := le_upd hb1
 simp (disch := omega) only [go_sem]
 generalize upd σ b1 (netC n) = s1 at *
 refine SRun.boxR (prop_one kd f p w) ?_
 intro b2 hb2
 have f1 := le_upd (cs := propC kd f p w) hb2 _ _ g1
 have f2 := upd_same s1 b2 (propC kd f p w)
 have hσ2 : ∀ d y, σ d = some y → upd s1 b2 (propC kd f p w) d = some y := fun d y h => le_upd hb2 _ _ (hσ d y h)
 have p0 : (propC kd f p w)[0]? = some (.int .i64 kd) := rfl
 have p1 : (propC kd f p w)[1]? = some (.int .i64 f) := rfl
 have p2 : (propC kd f p w)[2]? = some (.int .i64 p) := rfl
 have p3 : (propC kd f p w)[3]? = some (.int .i64 w) := rfl
 simp (disch := omega) only [go_sem]
 generalize upd s1 b2 (propC kd f p w) = s2 at *
 simp (disch := omega) only [f1, hlen, hlen2, go_sem]
 refine SRun.callR (isNet_ok hn) ⟨[], rfl, rfl⟩ rfl ?_
 have hd1 : propB n kd f p w = (netB n && inB kd 1 4 && routerB n.routers.length f && inB p (-1) 15 && (if kd = 3 then routerB n.routers.length w else decide (w = 0))) := rfl
 generalize netB n = q1 at *
 cases q1
 ·simp (disch := omega) only [go_sem]
  exact W_retC c39_ok rfl (Conv.drop _ hσ2) ⟨by rw [hd1]; simp [look], rfl⟩
 simp (disch := omega) only [f2, p0, go_sem]
 refine SRun.callR (within_ok _ _ _) ⟨[], rfl, rfl⟩ rfl ?_
 rw [hin]
 generalize inB kd 1 4 = q2 at *
 cases q2
 ·simp (disch := omega) only [go_sem]
  exact W_retC c39_ok rfl (Conv.drop _ hσ2) ⟨by rw [hd1]; simp [look], rfl⟩
 simp (disch := omega) only [f1, f2, p1, hlen, hlen2, go_sem]
 refine SRun.callR (isRouter_ok hn.routers) ⟨[], rfl, rfl⟩ rfl ?_
 generalize routerB n.routers.length f = q3 at *
 cases q3
 ·simp (disch := omega) only [go_sem]
  exact W_retC c39_ok rfl (Conv.drop _ hσ2) ⟨by rw [hd1]; simp [look], rfl⟩
 simp (disch := omega) only [f2, p2, go_sem]
 refine SRun.callR (within_ok _ _ _) ⟨[], rfl, rfl⟩ rfl ?_
 rw [hin]
 generalize inB p (-1) 15 = q4 at *
 cases q4
 ·simp (disch := omega) only [go_sem]
  exact W_retC c39_ok rfl (Conv.drop _ hσ2) ⟨by rw [hd1]; simp [look], rfl⟩
 simp (disch := omega) only [f2, p0, go_sem]
 first | refine iteW_dec (fun h3 => ?_) (fun h3 => ?_) | refine iteW_of (fun h3 => ?_) (fun h3 => ?_)
 ·simp (disch := omega) only [f1, f2, p3, hlen, hlen2, go_sem]
  refine SRun.callR (isRouter_ok hn.routers) ⟨[], rfl, rfl⟩ rfl ?_
  simp (disch := omega) only [go_sem]
  exact W_retC c39_ok rfl (Conv.drop _ hσ2) ⟨by rw [hd1, if_pos h3]; simp [look], rfl⟩
 ·simp (disch := omega) only [f2, p3, go_sem]
  exact W_retC c39_ok rfl (Conv.drop _ hσ2) ⟨by rw [hd1, if_neg h3]; simp [look], rfl⟩
/-- Whether a way satisfies a property. -/
def satP (kd way : Int) (w : Int × List Int) : Bool :=
 if kd = 1 then decide (w.1 = 1) || decide (w.1 = 2) else if kd = 2 then !(decide (w.1 = 1) || decide (w.1 = 2))
 else if kd = 3 then !(decide (w.1 = 1) || decide (w.1 = 2)) || hasB w.2 way else decide (w.1 = 1)
set_option maxHeartbeats 1000000 in
theorem isSatisfied_ok {kd f p way o : Int} {ex : Bool} {path : List Int} (hl : path.length ≤ 1000000000000) : Ret Tryz.prog Γ 53 [.agg (propC kd f p way), .agg [.int .i64 o, .isl ex 1 (ints path)]] σ (.bool (satP kd way (o, path))) σ := by
 have p0 : (propC kd f p way)[0]? = some (.int .i64 kd) := rfl
 have p3 : (propC kd f p way)[3]? = some (.int .i64 way) := rfl
 refine ret_of c53_ok rfl ?_
 simp (disch := omega) only [c53, go_sem]
 refine SRun.boxR (prop_one kd f p way) ?_
 intro b2 hb2
 simp (disch := omega) only [go_sem]
 refine SRun.boxR (by simp [ev, look, V.cells, V.one]) ?_
 intro b3 hb3
 have n3 := upd_none.1 hb3
 have n23 : b2 ≠ b3 := n3.1.symm
 have hle := le_two hb2 n3.2
 have hdef : satP kd way (o, path) = if kd = 1 then decide (o = 1) || decide (o = 2) else if kd = 2 then !(decide (o = 1) || decide (o = 2)) else if kd = 3 then !(decide (o = 1) || decide (o = 2)) || hasB path way else decide (o = 1) := rfl
 generalize m1 : decide (o = 1) = q1 at *
 generalize m2 : decide (o = 2) = q2 at *
 by_cases k1 : kd = 1
 ·have d1 : decide (kd = 1) = true := decide_eq_true k1
  rw [if_pos k1] at hdef
  cases q1 <;> cases q2
  all_goals
   simp (disch := omega) only [p0, p3, n23, m1, m2, d1, go_sem]
   exact W_retC c53_ok rfl (Conv.drop _ (hle _ _)) ⟨by rw [hdef]; rfl, rfl⟩
 have d1 : decide (kd = 1) = false := decide_eq_false k1
 rw [if_neg k1] at hdef
 by_cases k2 : kd = 2
 ·have d2 : decide (kd = 2) = true := decide_eq_true k2
  rw [if_pos k2] at hdef
  cases q1 <;> cases q2
  all_goals
   simp (disch := omega) only [p0, p3, n23, m1, m2, d1, d2, go_sem]
   exact W_retC c53_ok rfl (Conv.drop _ (hle _ _)) ⟨by rw [hdef]; rfl, rfl⟩
 have d2 : decide (kd = 2) = false := decide_eq_false k2
 rw [if_neg k2] at hdef
 by_cases k3 : kd = 3
 ·have d3 : decide (kd = 3) = true := decide_eq_true k3
  rw [if_pos k3] at hdef
  have hC := fun Γ σ => containsInt_ok (Γ := Γ) (σ := σ) (ex := ex) (xs := path) (x := way) hl
  generalize hasB path way = q3 at *
  cases q1 <;> cases q2
  case' false.false =>
   simp (disch := omega) only [p0, p3, n23, m1, m2, d1, d2, d3, go_sem]
  case' false.true =>
   simp (disch := omega) only [p0, p3, n23, m1, m2, d1, d2, d3, go_sem]
   refine SRun.callR (hC _ _) ⟨[], rfl, rfl⟩ rfl ?_
   simp (disch := omega) only [go_sem]
  case' true.false =>
   simp (disch := omega) only [p0, p3, n23, m1, m2, d1, d2, d3, go_sem]
   refine SRun.callR (hC _ _) ⟨[], rfl, rfl⟩ rfl ?_
   simp (disch := omega) only [go_sem]
  case' true.true =>
   simp (disch := omega) only [p0, p3, n23, m1, m2, d1, d2, d3, go_sem]
   refine SRun.callR (hC _ _) ⟨[], rfl, rfl⟩ rfl ?_
   simp (disch := omega) only [go_sem]
  all_goals
   exact W_retC c53_ok rfl (Conv.drop _ (hle _ _)) ⟨by rw [hdef]; rfl, rfl⟩
 have d3 : decide (kd = 3) = false := decide_eq_false k3
 rw [if_neg k3] at hdef
 cases q1 <;> cases q2
 all_goals
  simp (disch := omega) only [p0, p3, n23, m1, m2, d1, d2, d3, go_sem]
  exact W_retC c53_ok rfl (Conv.drop _ (hle _ _)) ⟨by rw [hdef]; rfl, rfl⟩
end
section
attribute [local irreducible] SRun DS DRun
variable {Γ : St} {σ σ0 : St}
theorem bools_app (xs : List Bool) (x : Bool) : bools xs ++ [.bool x] = bools (xs ++ [x]) := by simp [bools]
theorem bool1_ok (x : Bool) : ∀ y ∈ [V.bool x], y.cells.length = 1 ∧ ∀ c ∈ y.cells, c.one = true := by
 intro y hy; rw [List.mem_singleton.1 hy]; simp [V.cells, V.one]
end
end Go.Proofs.YtabelcohkpmpnaaGreat.Lg
