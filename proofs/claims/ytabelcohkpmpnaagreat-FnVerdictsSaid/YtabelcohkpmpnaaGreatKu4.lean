/- What is told of the functions that are reached, as far as it is asked here. -/
import Derived.Test.YtabelcohkpmpnaaGreatKu3
import Derived.KernelRfl
set_option linter.unusedSimpArgs false
set_option linter.unusedVariables false
namespace Go.Proofs.YtabelcohkpmpnaaGreat.Lg
open Go
section
attribute [local irreducible] SRun DS DRun
variable {Γ : St} {σ σ0 : St}
set_option maxHeartbeats 1000000 in
theorem l07Routes_ok {n : Net} {ex : Bool} {rs : List Rt} (hn : NetR n) (hl : rs.length ≤ 1000000000000) :
  Ret Tryz.prog Γ 59 [netV n, .isl ex 4 (rtsV rs)] σ (.bool (rtsB n rs)) σ := by
 have r1 := hn.r1
 have r4 := hn.r4
 have l6 := hn.l6
 have e0 : (netC n)[0]? = some (.isl false 1 (strsV n.routers)) := rfl
 have e1 : (netC n)[1]? = some (.isl false 3 (linksV n.links)) := rfl
 have hin : ∀ a b c, (decide (b ≤ a) && decide (a ≤ c)) = inB a b c := fun _ _ _ => rfl
 have hB : rtsB n rs = (decide (rs.length = n.routers.length) && (List.range rs.length).all fun i => rtB n i (rs.getD i default)) := rfl
 refine ret_of c59_ok rfl ?_
 simp (disch := omega) only [c59, netV, go_sem]
 refine SRun.boxR (net_one n) ?_
 intro b2 hb2
 have g2 := upd_same σ b2 (netC n)
 have hσ : ∀ d x, σ d = some x → upd σ b2 (netC n) d = some x := le_upd hb2
 simp (disch := omega) only [go_sem]
 generalize upd σ b2 (netC n) = s1 at *
 by_cases c1 : rs.length = n.routers.length
 case' neg =>
  have d1 : (decide ¬ (rs.length : Int) = n.routers.length) = true := decide_eq_true (by omega)
  rw [hB, decide_eq_false c1]
  simp (disch := omega) only [g2, e0, d1, go_sem]
  exact W_retC c59_ok rfl (Conv.drop _ hσ) ⟨rfl, rfl⟩
 have d1 : (decide ¬ (rs.length : Int) = n.routers.length) = false := decide_eq_false (by omega)
 rw [decide_eq_true c1, Bool.true_and] at hB
 simp (disch := omega) only [g2, e0, d1, go_sem]
 refine W_loopC (α := Nat × St) (fun p => p.1 ≤ rs.length ∧ (∀ d x, s1 d = some x → p.2 d = some x) ∧ ∀ j, j < p.1 → rtB n j (rs.getD j default) = true) (fun p => [(1, .isl ex 4 (rtsV rs)), (2, .ptr b2 0), (5, .int .i64 (p.1 : Nat))]) (fun p => p.2) (fun p => rs.length - p.1) (0, s1) ⟨by simp, fun _ _ h => h, fun j hj => by simp at hj⟩ (by simp (disch := omega) only [subT, Int.natCast_add, Int.cast_ofNat_Int, go_sem] <;> (repeat' apply And.intro) <;> first | rfl | (congr 1; omega) | assumption) rfl ?_
 rintro ⟨i, s⟩ ⟨hi, hle, hall⟩ ih
 dsimp only at hi hle hall
 have g2' := hle _ _ g2
 simp (disch := omega) only [go_sem]
 first | refine iteW_dec (fun h1 => ?_) (fun h1 => ?_) | refine iteW_of (fun h1 => ?_) (fun h1 => ?_)
 ·have hno : rtB n i (rs.getD i default) = false → rtsB n rs = false := fun h => by rw [hB]; exact range_not (i := i) (by omega) h
  have hnx := all_next (p := fun j => rtB n j (rs.getD j default)) hall (i := i)
  simp (disch := omega) only [go_sem]
  generalize rs.getD i default = x at *
  refine SRun.allocR ?_
  intro b6 hb6
  have n62 : b2 ≠ b6 := fun e => by subst e; rw [g2'] at hb6; cases hb6
  obtain ⟨v, p, le, mk⟩ := x
  have hxc : rtC ⟨v, p, le, mk⟩ = [.int .i64 v, .int .i64 p, .int .i64 le, .bool mk] := rfl
  have hdef : rtB n i ⟨v, p, le, mk⟩ = (inB v (-3) (n.routers.length - 1) && inB p 0 1000 && inB le 0 10000 && (decide (v < 0) || decide (0 ≤ linkP n.links i v)) && (!decide (v = -3) || decide ((⟨v, p, le, mk⟩ : Rt) = noRt))) := rfl
  have hle3 : ∀ z, ∀ d y, σ d = some y → upd s b6 z d = some y := fun z d y h => le_upd hb6 _ _ (hle _ _ (hσ _ _ h))
  simp (disch := omega) only [hxc, go_sem]
  refine W_drawW ?_
  simp (disch := omega) only [g2', e0, n62, go_sem]
  refine DRun.callQ (l01In_ok v (-3) ((n.routers.length : Int) - 1)) ⟨[], rfl, rfl⟩ ?_
  rintro r s ⟨rfl, hs⟩
  obtain rfl := hs.symm
  rw [hin]
  cases q1 : inB v (-3) ((n.routers.length : Int) - 1) with
  | false =>
   simp (disch := omega) only [go_sem]
   repeat (refine DRun.skipG rfl ?_; simp (disch := omega) only [go_sem])
   refine DRun.mixE rfl ?_
   simp (disch := omega) only [go_sem]
   refine DS.skipG rfl rfl ?_
   simp (disch := omega) only [go_sem]
   exact W_retC c59_ok rfl (Conv.drop _ (hle3 _)) ⟨by rw [hno (by rw [hdef, q1]; simp)]; rfl, rfl⟩
  | true =>
  simp (disch := omega) only [go_sem]
  refine DRun.callG (l01In_ok p 0 1000) ⟨[], rfl, rfl⟩ rfl ?_
  rintro r s ⟨rfl, hs⟩
  obtain rfl := hs.symm
  rw [hin]
  cases q2 : inB p 0 1000 with
  | false =>
   simp (disch := omega) only [go_sem]
   repeat (refine DRun.skipG rfl ?_; simp (disch := omega) only [go_sem])
   refine DRun.mixE rfl ?_
   simp (disch := omega) only [go_sem]
   refine DS.skipG rfl rfl ?_
   simp (disch := omega) only [go_sem]
   exact W_retC c59_ok rfl (Conv.drop _ (hle3 _)) ⟨by rw [hno (by rw [hdef, q2]; simp)]; rfl, rfl⟩
  | true =>
  simp (disch := omega) only [go_sem]
  refine DRun.callG (l01In_ok le 0 10000) ⟨[], rfl, rfl⟩ rfl ?_
  rintro r s ⟨rfl, hs⟩
  obtain rfl := hs.symm
  rw [hin]
  cases q3 : inB le 0 10000 with
  | false =>
   simp (disch := omega) only [go_sem]
   repeat (refine DRun.skipG rfl ?_; simp (disch := omega) only [go_sem])
   refine DRun.mixE rfl ?_
   simp (disch := omega) only [go_sem]
   refine DS.skipG rfl rfl ?_
   simp (disch := omega) only [go_sem]
   exact W_retC c59_ok rfl (Conv.drop _ (hle3 _)) ⟨by rw [hno (by rw [hdef, q3]; simp)]; rfl, rfl⟩
  | true =>
  rw [q1, q2, q3] at hdef
  by_cases c4 : v ≥ 0
  ·have d4 : decide (v ≥ 0) = true := decide_eq_true c4
   have d5 : decide (v = -3) = false := decide_eq_false (by omega)
   simp (disch := omega) only [d4, g2', e1, n62, go_sem]
   refine DRun.callG (l06Link_ok (ex := false) (ls := n.links) (x := i) (y := v) (by omega)) ⟨[], rfl, rfl⟩ rfl ?_
   rintro r s ⟨rfl, hs⟩
   obtain rfl := hs.symm
   by_cases c6 : linkP n.links i v < 0
   ·have d6 : decide (linkP n.links i v < 0) = true := decide_eq_true c6
    simp (disch := omega) only [d6, go_sem]
    repeat (refine DRun.skipG rfl ?_; simp (disch := omega) only [go_sem])
    refine DRun.mixE rfl ?_
    simp (disch := omega) only [go_sem]
    refine DS.skipG rfl rfl ?_
    simp (disch := omega) only [go_sem]
    exact W_retC c59_ok rfl (Conv.drop _ (hle3 _)) ⟨by rw [hno (by rw [hdef, decide_eq_false (by omega : ¬ v < 0), decide_eq_false (by omega : ¬ 0 ≤ linkP n.links i v)]; simp)]; rfl, rfl⟩
   ·have d6 : decide (linkP n.links i v < 0) = false := decide_eq_false c6
    have hok : rtB n i ⟨v, p, le, mk⟩ = true := by rw [hdef, d5, decide_eq_true (by omega : 0 ≤ linkP n.links i v)]; simp
    simp (disch := omega) only [d6, d5, go_sem]
    repeat (refine DRun.skipG rfl ?_; simp (disch := omega) only [go_sem])
    refine DRun.mixE rfl ?_
    simp (disch := omega) only [go_sem]
    refine DS.skipG rfl rfl ?_
    simp (disch := omega) only [go_sem]
    exact ih (i + 1, _) _ _ ⟨by simp only; omega, fun d y h => le_upd hb6 _ _ (hle _ _ h), hnx hok⟩ (by simp only; omega) (by simp (disch := omega) only [subT, Int.natCast_add, Int.cast_ofNat_Int, go_sem] <;> (repeat' apply And.intro) <;> first | rfl | (congr 1; omega) | assumption) rfl
  ·have d4 : decide (v ≥ 0) = false := decide_eq_false c4
   rw [decide_eq_true (by omega : v < 0)] at hdef
   simp (disch := omega) only [d4, go_sem]
   refine DRun.skipG rfl ?_
   by_cases c5 : v = -3
   ·have d5 : decide (v = -3) = true := decide_eq_true c5
    have hnr : rtC noRt = [.int .i64 (-3), .int .i64 0, .int .i64 0, .bool false] := rfl
    rw [d5] at hdef
    simp (disch := omega) only [d5, go_sem]
    refine DRun.mixE rfl ?_
    simp (disch := omega) only [go_sem]
    refine DS.callG (ACalls.mono _ _ (l07None_ok (σ := emp)) fun _ _ h => h) ⟨[], rfl, rfl⟩ rfl rfl ?_
    rintro r s ⟨rfl, hs⟩ _
    obtain rfl := hs.symm
    simp (disch := omega) only [go_sem]
    refine ⟨trivial, ?_⟩
    have hq := rt_dec ⟨v, p, le, mk⟩ noRt
    dsimp only at hq
    simp (disch := omega) only [hq, go_sem]
    first | refine iteW_dec (fun c7 => ?_) (fun c7 => ?_) | refine iteW_of (fun c7 => ?_) (fun c7 => ?_)
    ·simp (disch := omega) only [go_sem]
     exact W_retC c59_ok rfl (Conv.drop _ (hle3 _)) ⟨by rw [hno (by rw [hdef, decide_eq_false c7]; simp)]; rfl, rfl⟩
    ·have hok : rtB n i ⟨v, p, le, mk⟩ = true := by rw [hdef, decide_eq_true (Decidable.not_not.1 c7)]; simp
     simp (disch := omega) only [go_sem]
     exact ih (i + 1, _) _ _ ⟨by simp only; omega, fun d y h => le_upd hb6 _ _ (hle _ _ h), hnx hok⟩ (by simp only; omega) (by simp (disch := omega) only [subT, Int.natCast_add, Int.cast_ofNat_Int, go_sem] <;> (repeat' apply And.intro) <;> first | rfl | (congr 1; omega) | assumption) rfl
   ·have d5 : decide (v = -3) = false := decide_eq_false c5
    have hok : rtB n i ⟨v, p, le, mk⟩ = true := by rw [hdef, d5]; simp
    simp (disch := omega) only [d5, go_sem]
    repeat (refine DRun.skipG rfl ?_; simp (disch := omega) only [go_sem])
    refine DRun.mixE rfl ?_
    simp (disch := omega) only [go_sem]
    refine DS.skipG rfl rfl ?_
    simp (disch := omega) only [go_sem]
    exact ih (i + 1, _) _ _ ⟨by simp only; omega, fun d y h => le_upd hb6 _ _ (hle _ _ h), hnx hok⟩ (by simp only; omega) (by simp (disch := omega) only [subT, Int.natCast_add, Int.cast_ofNat_Int, go_sem] <;> (repeat' apply And.intro) <;> first | rfl | (congr 1; omega) | assumption) rfl
 ·have hil : i = rs.length := by omega
  subst hil
  rw [hB, range_all hall]
  simp (disch := omega) only [go_sem]
  exact W_retC c59_ok rfl (Conv.drop _ fun d x h => hle _ _ (hσ _ _ h)) ⟨rfl, rfl⟩
end
section
attribute [local irreducible] SRun DS DRun
variable {Γ : St} {σ σ0 : St}
/-- A list that was written down, or one that was made. -/
def PathO (σ0 : St) (es : Nat) (xs : List V) (q : V) (σ : St) : Prop := (q = .isl true es xs ∧ σ = σ0 ∧ ∀ x ∈ xs, x.cells.length = es ∧ ∀ c ∈ x.cells, c.one = true) ∨ OwnL σ0 es xs q σ
section
variable {es : Nat} {xs ys : List V} {q : V}
theorem PathO.get (h : PathO σ0 es xs q σ) {b : Nat} {c : List V} (hb : σ0 b = some c) : σ b = some c := by
 rcases h with ⟨_, rfl, _⟩ | h
 ·exact hb
 ·exact h.get hb
theorem PathO.upd (h : PathO σ0 es xs q σ) {b : Nat} {c c' : List V} (hb : σ0 b = some c) : PathO (upd σ0 b c') es xs q (upd σ b c') := by
 rcases h with ⟨h1, rfl, h3⟩ | h
 ·exact .inl ⟨h1, rfl, h3⟩
 ·exact .inr (h.upd hb)
theorem PathO.one (h : PathO σ0 es xs q σ) : q.one = true := by
 rcases h with ⟨rfl, _, _⟩ | h
 ·rfl
 ·exact h.one
theorem PathO.cells (h : PathO σ0 es xs q σ) : q.cells = [q] := by
 rcases h with ⟨rfl, _, _⟩ | h
 ·rfl
 ·exact h.cells
theorem PathO.less {σ1 s : St} (h : PathO σ1 es xs q s) (hle : ∀ b c, σ b = some c → σ1 b = some c) : ∃ s2, (∀ b c, s2 b = some c → s b = some c) ∧ PathO σ es xs q s2 := by
 rcases h with ⟨h1, rfl, h3⟩ | h
 ·exact ⟨σ, hle, .inl ⟨h1, rfl, h3⟩⟩
 ·obtain ⟨s2, h1, h2⟩ := ownL_less h hle
  exact ⟨s2, h1, .inr h2⟩
theorem PathO.le (h : PathO σ0 es xs q σ) : ∀ b c, σ0 b = some c → σ b = some c := fun b c hb => h.get hb
theorem PathO.frz (h : PathO σ0 es xs q σ) : Frz σ σ0 q (.isl false es xs) := by
 rcases h with ⟨rfl, rfl, h3⟩ | h
 ·exact .isl _ _ _
 ·exact h.conv.2
theorem PathO.len {P : Program} {f : FuncId} {n : Nat} {Q : V → St → Prop} {k : List It} {T : Ts} {g : GI} {l : List GI} (h : PathO σ0 es xs q σ) : stepW P Γ f n Q (.len (.c q)) g l k T σ = W P Γ f n Q (.ops l :: k) (putT T g.d (.int .i64 xs.length)) σ := by
 rcases h with ⟨rfl, _, _⟩ | h
 ·rw [stepW_len_isl]
 ·exact stepW_len_own h
theorem SRun.appP {P : Program} {f : FuncId} {n : Nat} {Q : V → St → Prop} {k : List It} {T : Ts} {l : List GI} {d : Option Nat} {by_ : Nat} {s x : Opd} {ex : Bool} (h : PathO σ0 es xs (ev Γ T s) σ) (hx : ev Γ T x = .isl ex es ys) (hne : ys ≠ []) (hy : ∀ y ∈ ys, y.cells.length = es ∧ ∀ c ∈ y.cells, c.one = true) (hfit : (xs.length + ys.length) * by_ ≤ 140737488355328)
  (hk : ∀ r σ', OwnL σ0 es (xs ++ ys) r σ' → W P Γ f n Q (.ops l :: k) (putT T d r) σ') : SRun P Γ f n (.ops (⟨d, none, .app es by_ s x⟩ :: l) :: k) T σ Q := by
 rcases h with ⟨he, rfl, h3⟩ | h
 ·have hfl : (flat ys).length = ys.length * es := flat_length fun x hm => (hy x hm).1
  have hfx : (flat xs).length = xs.length * es := flat_length fun x hm => (h3 x hm).1
  refine SRun.appR (old := flat xs) (sLen := xs.length) (by rw [he]; exact Base.isl xs es (.inr rfl)) (by rw [hx]; exact src_isl) (by simpa using hfit) (fun b2 cap2 hb2 hc2 => ?_) (fun h0 => absurd (List.eq_nil_of_length_eq_zero h0) hne)
  rw [he] at hb2 ⊢
  refine hk _ _ ⟨.inr ⟨b2, cap2, hb2, by rw [List.length_append], by rw [flat_append]; rfl, by rw [flat_append, List.length_append, List.length_append, hfl, hfx, Nat.add_mul], by rw [List.length_append]; exact hc2⟩, fun x hm => ?_⟩
  rcases List.mem_append.1 hm with hm | hm
  ·exact h3 x hm
  ·exact hy x hm
 ·exact SRun.appL h hx hy hfit hk
end
def walkV (w : Int × List Int) : V := .agg [.int .i64 w.1, .isl false 1 (ints w.2)]
set_option maxHeartbeats 1000000 in
theorem l08Walk_own {n : Net} {ex : Bool} {rs : List Rt} {from_ port : Int} (hf : n.filters.length ≤ 1000000000000) (hl : rs.length ≤ 1000000) (hv : ViasIn rs) (hi : ∀ v : Int, -3 ≤ (rtAt rs v).via) (h0 : 0 ≤ from_ ∧ from_ < rs.length) :
  ACalls Tryz.prog Γ 61 [netV n, .isl ex 4 (rtsV rs), .int .i64 from_, .int .i64 port] σ fun r s => ∃ q, r = .agg [.int .i64 (walkP n rs from_ port).1, q] ∧ PathO σ 1 (ints (walkP n rs from_ port).2) q s := by
 have hlen : (netC n).take 6 = netC n := rfl
 have hlen2 : (netC n).length = 6 := rfl
 refine acalls_W c61_ok rfl ?_
 simp (disch := omega) only [c61, netV, go_sem]
 refine SRun.boxR (net_one n) ?_
 intro b4 hb4
 simp (disch := omega) only [go_sem]
 refine SRun.allocR ?_
 intro b8 hb8
 have n8 := upd_none.1 hb8
 simp (disch := omega) only [go_sem]
 refine SRun.allocR ?_
 intro b9 hb9
 have n9 := upd_none.1 hb9
 have n9' := upd_none.1 n9.2
 simp (disch := omega) only [go_sem]
 have n48 : b4 ≠ b8 := n8.1.symm
 have n49 : b4 ≠ b9 := n9'.1.symm
 have n89 : b8 ≠ b9 := n9.1.symm
 have n98 : b9 ≠ b8 := n9.1
 have g4 : ∀ y z, upd (upd (upd σ b4 (netC n)) b8 y) b9 z b4 = some (netC n) := fun y z => by rw [upd_ne _ _ n49, upd_ne _ _ n48, upd_same]
 have g8 : ∀ y z, upd (upd (upd σ b4 (netC n)) b8 y) b9 z b8 = some y := fun y z => by rw [upd_ne _ _ n89, upd_same]
 have hσ : ∀ y z d x, σ d = some x → upd (upd (upd σ b4 (netC n)) b8 y) b9 z d = some x := fun y z d x h => by
  have e4 : d ≠ b4 := fun e => by subst e; rw [hb4] at h; cases h
  have e8 : d ≠ b8 := fun e => by subst e; rw [n8.2] at h; cases h
  have e9 : d ≠ b9 := fun e => by subst e; rw [n9'.2] at h; cases h
  rw [upd_ne _ _ e9, upd_ne _ _ e8, upd_ne _ _ e4]; exact h
 have hwp : walkP n rs from_ port = walkGo n rs port rs.length from_ [from_] := rfl
 refine W_loopC (α := Nat × Int × List Int × V × St) (fun p => p.1 ≤ rs.length ∧ (0 ≤ p.2.1 ∧ p.2.1 < rs.length) ∧ p.2.2.1.length ≤ p.1 + 1 ∧ walkP n rs from_ port = walkGo n rs port (rs.length - p.1) p.2.1 p.2.2.1 ∧ PathO (upd (upd (upd σ b4 (netC n)) b8 [.int .i64 0, .isl true 0 []]) b9 [.int .i64 0, p.2.2.2.1]) 1 (ints p.2.2.1) p.2.2.2.1 p.2.2.2.2) (fun p => [(1, .isl ex 4 (rtsV rs)), (3, .int .i64 port), (4, .ptr b4 0), (8, .ptr b8 0), (9, .ptr b9 0), (10, .int .i64 p.2.1), (11, .int .i64 (p.1 : Nat))]) (fun p => p.2.2.2.2) (fun p => rs.length - p.1) (0, from_, [from_], .isl true 1 [.int .i64 from_], _) ⟨by simp, h0, by simp, hwp, .inl ⟨rfl, rfl, ints1_ok from_⟩⟩ (by simp (disch := omega) only [subT, Int.natCast_add, Int.cast_ofNat_Int, go_sem] <;> (repeat' apply And.intro) <;> first | rfl | (congr 1; omega) | assumption) rfl ?_
 rintro ⟨i, at_, path, q, s⟩ ⟨hi1, hat, hpl, he, ho⟩ ih
 dsimp only at hi1 hat hpl he ho
 have g9' := ho.get (upd_same _ b9 _)
 have g8' := ho.get (g8 _ _)
 have g4' := ho.get (g4 _ _)
 have hq1 := ho.one
 have hqc := ho.cells
 have fin : ∀ (o : Int) (s2 : St), s2 = upd (upd s b9 [.int .i64 o, q]) b8 [.int .i64 o, q] → ∃ s3, (∀ d x, s3 d = some x → s2 d = some x) ∧ PathO σ 1 (ints path) q s3 := by
  rintro o _ rfl
  have h1 := ho.upd (c' := [.int .i64 o, q]) (upd_same _ b9 _)
  have h2 := h1.upd (b := b8) (c' := [.int .i64 o, q]) (by rw [upd_upd]; exact g8 _ _)
  refine h2.less fun d x h => ?_
  have e8 : d ≠ b8 := fun e => by subst e; rw [n8.2] at h; cases h
  rw [upd_ne _ _ e8, upd_upd]; exact hσ _ _ _ _ h
 simp (disch := omega) only [go_sem]
 first | refine iteW_dec (fun h1 => ?_) (fun h1 => ?_) | refine iteW_of (fun h1 => ?_) (fun h1 => ?_)
 ·obtain ⟨m, hm⟩ : ∃ m, rs.length - i = m + 1 := ⟨rs.length - i - 1, by omega⟩
  rw [hm, walkGo] at he
  have hrt : rs.getD at_.toNat default = rtAt rs at_ := rfl
  have hrt0 : ∀ r : Rt, (rtC r)[0]? = some (.int .i64 r.via) := fun _ => rfl
  have hvi := hv at_
  have hii := hi at_
  simp (disch := omega) only [hrt, hrt0, go_sem]
  generalize (rtAt rs at_).via = v at *
  first | refine iteW_dec (fun h2 => ?_) (fun h2 => ?_) | refine iteW_of (fun h2 => ?_) (fun h2 => ?_)
  ·rw [if_pos h2] at he
   rw [he]
   simp (disch := omega) only [g9', g8', n89, n98, hq1, hqc, go_sem]
   obtain ⟨s3, f1, f2⟩ := fin 1 _ rfl
   exact W_retC c61_ok (r := .agg [.int .i64 1, q]) (resV_cellA rfl (upd_same _ _ _) rfl) (Conv.drop _ f1) ⟨q, rfl, f2⟩
  rw [if_neg h2] at he
  simp (disch := omega) only [go_sem]
  first | refine iteW_dec (fun h3 => ?_) (fun h3 => ?_) | refine iteW_of (fun h3 => ?_) (fun h3 => ?_)
  ·rw [if_pos h3] at he
   rw [he]
   simp (disch := omega) only [g9', g8', n89, n98, hq1, hqc, go_sem]
   obtain ⟨s3, f1, f2⟩ := fin 2 _ rfl
   exact W_retC c61_ok (r := .agg [.int .i64 2, q]) (resV_cellA rfl (upd_same _ _ _) rfl) (Conv.drop _ f1) ⟨q, rfl, f2⟩
  rw [if_neg h3] at he
  simp (disch := omega) only [go_sem]
  first | refine iteW_dec (fun h4 => ?_) (fun h4 => ?_) | refine iteW_of (fun h4 => ?_) (fun h4 => ?_)
  ·rw [if_pos h4] at he
   rw [he]
   simp (disch := omega) only [g9', g8', n89, n98, hq1, hqc, go_sem]
   obtain ⟨s3, f1, f2⟩ := fin 3 _ rfl
   exact W_retC c61_ok (r := .agg [.int .i64 3, q]) (resV_cellA rfl (upd_same _ _ _) rfl) (Conv.drop _ f1) ⟨q, rfl, f2⟩
  rw [if_neg h4] at he
  simp (disch := omega) only [g4', hlen, hlen2, go_sem]
  refine SRun.callR (l08Filtered_ok (n := n) (at_ := at_) (to := v) (p := port) hf) ⟨[], rfl, rfl⟩ rfl ?_
  cases h5 : n.filters.any (filtB at_ v port) with
  | true =>
   rw [h5, if_pos rfl] at he
   rw [he]
   simp (disch := omega) only [g9', g8', n89, n98, hq1, hqc, go_sem]
   obtain ⟨s3, f1, f2⟩ := fin 4 _ rfl
   exact W_retC c61_ok (r := .agg [.int .i64 4, q]) (resV_cellA rfl (upd_same _ _ _) rfl) (Conv.drop _ f1) ⟨q, rfl, f2⟩
  | false =>
   rw [h5, if_neg (by simp)] at he
   simp (disch := omega) only [g9', go_sem]
   refine SRun.appP ho rfl (by simp) (ints1_ok v) (by simp only [ints_len, List.length_singleton]; omega) ?_
   intro q2 s2 ho2
   rw [ints_app] at ho2
   have ho3 := ho2.upd (c' := [.int .i64 0, q2]) (upd_same _ b9 _)
   rw [upd_upd] at ho3
   simp (disch := omega) only [ho2.get (upd_same _ b9 _), ho2.one, ho2.cells, go_sem]
   exact ih (i + 1, v, path ++ [v], q2, upd s2 b9 [.int .i64 0, q2]) _ _ ⟨by simp only; omega, ⟨by simp only; omega, by simp only; omega⟩, by simp only [List.length_append, List.length_singleton]; omega, by simp only; rw [he]; congr 1; omega, .inr ho3⟩ (by simp only; omega) (by simp (disch := omega) only [subT, Int.natCast_add, Int.cast_ofNat_Int, go_sem] <;> (repeat' apply And.intro) <;> first | rfl | (congr 1; omega) | assumption) rfl
 ·have hil : rs.length - i = 0 := by omega
  rw [hil, walkGo] at he
  rw [he]
  simp (disch := omega) only [g9', g8', n89, n98, hq1, hqc, go_sem]
  obtain ⟨s3, f1, f2⟩ := fin 3 _ rfl
  exact W_retC c61_ok (r := .agg [.int .i64 3, q]) (resV_cellA rfl (upd_same _ _ _) rfl) (Conv.drop _ f1) ⟨q, rfl, f2⟩
theorem PathO.inr' {es : Nat} {xs : List V} {q : V} (h : OwnL σ0 es xs q σ) : PathO σ0 es xs q σ := .inr h
set_option maxHeartbeats 1000000 in
theorem forward_own {n : Net} {ex : Bool} {rs : List Rt} {from_ port : Int} (hf : n.filters.length ≤ 1000000000000) (hl : rs.length ≤ 1000000) (hv : ViasIn rs) (hi : ∀ v : Int, -3 ≤ (rtAt rs v).via) (h0 : 0 ≤ from_ ∧ from_ < rs.length) (hr : rs.length = n.routers.length) :
  ACalls Tryz.prog Γ 54 [netV n, .isl ex 4 (rtsV rs), .int .i64 from_, .int .i64 port] σ fun r s => ∃ q, r = .agg [.int .i64 (walkP n rs from_ port).1, q] ∧ PathO σ 1 (ints (walkP n rs from_ port).2) q s := by
 have hlen : (netC n).take 6 = netC n := rfl
 have hlen2 : (netC n).length = 6 := rfl
 have e0 : (netC n)[0]? = some (.isl false 1 (strsV n.routers)) := rfl
 refine acalls_W c54_ok rfl ?_
 simp (disch := omega) only [c54, netV, go_sem]
 refine SRun.boxR (net_one n) ?_
 intro b4 hb4
 simp (disch := omega) only [go_sem]
 refine SRun.allocR ?_
 intro b8 hb8
 have n8 := upd_none.1 hb8
 simp (disch := omega) only [go_sem]
 refine SRun.allocR ?_
 intro b9 hb9
 have n9 := upd_none.1 hb9
 have n9' := upd_none.1 n9.2
 simp (disch := omega) only [go_sem]
 have n48 : b4 ≠ b8 := n8.1.symm
 have n49 : b4 ≠ b9 := n9'.1.symm
 have n89 : b8 ≠ b9 := n9.1.symm
 have n98 : b9 ≠ b8 := n9.1
 have g4 : ∀ y z, upd (upd (upd σ b4 (netC n)) b8 y) b9 z b4 = some (netC n) := fun y z => by rw [upd_ne _ _ n49, upd_ne _ _ n48, upd_same]
 have g8 : ∀ y z, upd (upd (upd σ b4 (netC n)) b8 y) b9 z b8 = some y := fun y z => by rw [upd_ne _ _ n89, upd_same]
 have hσ : ∀ y z d x, σ d = some x → upd (upd (upd σ b4 (netC n)) b8 y) b9 z d = some x := fun y z d x h => by
  have e4 : d ≠ b4 := fun e => by subst e; rw [hb4] at h; cases h
  have e8 : d ≠ b8 := fun e => by subst e; rw [n8.2] at h; cases h
  have e9 : d ≠ b9 := fun e => by subst e; rw [n9'.2] at h; cases h
  rw [upd_ne _ _ e9, upd_ne _ _ e8, upd_ne _ _ e4]; exact h
 have hwp : walkP n rs from_ port = walkGo n rs port rs.length from_ [from_] := rfl
 refine W_loopC (α := Nat × Int × List Int × V × St) (fun p => p.1 < rs.length ∧ (0 ≤ p.2.1 ∧ p.2.1 < rs.length) ∧ p.2.2.1.length = p.1 + 1 ∧ walkP n rs from_ port = walkGo n rs port (rs.length - p.1) p.2.1 p.2.2.1 ∧ PathO (upd (upd (upd σ b4 (netC n)) b8 [.int .i64 0, .isl true 0 []]) b9 [.int .i64 0, p.2.2.2.1]) 1 (ints p.2.2.1) p.2.2.2.1 p.2.2.2.2) (fun p => [(1, .isl ex 4 (rtsV rs)), (3, .int .i64 port), (4, .ptr b4 0), (8, .ptr b8 0), (9, .ptr b9 0), (10, .int .i64 p.2.1)]) (fun p => p.2.2.2.2) (fun p => rs.length - p.1) (0, from_, [from_], .isl true 1 [.int .i64 from_], _) ⟨by simp only; omega, h0, by simp, hwp, .inl ⟨rfl, rfl, ints1_ok from_⟩⟩ (by simp (disch := omega) only [subT, Int.natCast_add, Int.cast_ofNat_Int, go_sem] <;> (repeat' apply And.intro) <;> first | rfl | (congr 1; omega) | assumption) rfl ?_
 rintro ⟨i, at_, path, q, s⟩ ⟨hi1, hat, hpl, he, ho⟩ ih
 dsimp only at hi1 hat hpl he ho
 have g9' := ho.get (upd_same _ b9 _)
 have g8' := ho.get (g8 _ _)
 have g4' := ho.get (g4 _ _)
 have hq1 := ho.one
 have hqc := ho.cells
 have fin : ∀ (o : Int) (s2 : St), s2 = upd (upd s b9 [.int .i64 o, q]) b8 [.int .i64 o, q] → ∃ s3, (∀ d x, s3 d = some x → s2 d = some x) ∧ PathO σ 1 (ints path) q s3 := by
  rintro o _ rfl
  have h1 := ho.upd (c' := [.int .i64 o, q]) (upd_same _ b9 _)
  have h2 := h1.upd (b := b8) (c' := [.int .i64 o, q]) (by rw [upd_upd]; exact g8 _ _)
  refine h2.less fun d x h => ?_
  have e8 : d ≠ b8 := fun e => by subst e; rw [n8.2] at h; cases h
  rw [upd_ne _ _ e8, upd_upd]; exact hσ _ _ _ _ h
 simp (disch := omega) only [go_sem]
 ·obtain ⟨m, hm⟩ : ∃ m, rs.length - i = m + 1 := ⟨rs.length - i - 1, by omega⟩
  rw [hm, walkGo] at he
  have hrt : rs.getD at_.toNat default = rtAt rs at_ := rfl
  have hrt0 : ∀ r : Rt, (rtC r)[0]? = some (.int .i64 r.via) := fun _ => rfl
  have hvi := hv at_
  have hii := hi at_
  simp (disch := omega) only [hrt, hrt0, go_sem]
  generalize (rtAt rs at_).via = v at *
  first | refine iteW_dec (fun h2 => ?_) (fun h2 => ?_) | refine iteW_of (fun h2 => ?_) (fun h2 => ?_)
  ·rw [if_pos h2] at he
   rw [he]
   simp (disch := omega) only [g9', g8', n89, n98, hq1, hqc, go_sem]
   obtain ⟨s3, f1, f2⟩ := fin 1 _ rfl
   exact W_retC c54_ok (r := .agg [.int .i64 1, q]) (resV_cellA rfl (upd_same _ _ _) rfl) (Conv.drop _ f1) ⟨q, rfl, f2⟩
  rw [if_neg h2] at he
  simp (disch := omega) only [go_sem]
  first | refine iteW_dec (fun h3 => ?_) (fun h3 => ?_) | refine iteW_of (fun h3 => ?_) (fun h3 => ?_)
  ·rw [if_pos h3] at he
   rw [he]
   simp (disch := omega) only [g9', g8', n89, n98, hq1, hqc, go_sem]
   obtain ⟨s3, f1, f2⟩ := fin 2 _ rfl
   exact W_retC c54_ok (r := .agg [.int .i64 2, q]) (resV_cellA rfl (upd_same _ _ _) rfl) (Conv.drop _ f1) ⟨q, rfl, f2⟩
  rw [if_neg h3] at he
  simp (disch := omega) only [go_sem]
  first | refine iteW_dec (fun h4 => ?_) (fun h4 => ?_) | refine iteW_of (fun h4 => ?_) (fun h4 => ?_)
  ·rw [if_pos h4] at he
   rw [he]
   simp (disch := omega) only [g9', g8', n89, n98, hq1, hqc, go_sem]
   obtain ⟨s3, f1, f2⟩ := fin 3 _ rfl
   exact W_retC c54_ok (r := .agg [.int .i64 3, q]) (resV_cellA rfl (upd_same _ _ _) rfl) (Conv.drop _ f1) ⟨q, rfl, f2⟩
  rw [if_neg h4] at he
  simp (disch := omega) only [g4', hlen, hlen2, go_sem]
  refine SRun.callR (isFiltered_ok (n := n) (at_ := at_) (to := v) (p := port) hf) ⟨[], rfl, rfl⟩ rfl ?_
  cases h5 : n.filters.any (filtB at_ v port) with
  | true =>
   rw [h5, if_pos rfl] at he
   rw [he]
   simp (disch := omega) only [g9', g8', n89, n98, hq1, hqc, go_sem]
   obtain ⟨s3, f1, f2⟩ := fin 4 _ rfl
   exact W_retC c54_ok (r := .agg [.int .i64 4, q]) (resV_cellA rfl (upd_same _ _ _) rfl) (Conv.drop _ f1) ⟨q, rfl, f2⟩
  | false =>
   rw [h5, if_neg (by simp)] at he
   simp (disch := omega) only [g9', go_sem]
   refine SRun.appP ho rfl (by simp) (ints1_ok v) (by simp only [ints_len, List.length_singleton]; omega) ?_
   intro q2 s2 ho2
   rw [ints_app] at ho2
   have ho3 := ho2.upd (c' := [.int .i64 0, q2]) (upd_same _ b9 _)
   rw [upd_upd] at ho3
   have g42 := ho2.get (g4 _ _)
   have g82 := ho2.get (g8 _ _)
   have hpl2 : (path ++ [v]).length = path.length + 1 := by simp
   have hq21 := ho2.one
   have hq2c := ho2.cells
   simp (disch := omega) only [ho2.get (upd_same _ b9 _), hq21, hq2c, stepW_len_own ho3, g42, n49, e0, ints_len, hpl2, go_sem]
   by_cases h6 : rs.length = i + 1
   ·have d6 : decide (((path.length + 1 : Nat) : Int) > n.routers.length) = true := decide_eq_true (by omega)
    have d6' : decide ((path.length : Int) + 1 > n.routers.length) = true := decide_eq_true (by omega)
    have hm0 : m = 0 := by omega
    rw [hm0, walkGo] at he
    rw [he]
    simp (disch := omega) only [d6, d6', g82, n89, n98, hq21, hq2c, go_sem]
    have h2 := (PathO.inr' ho3).upd (c' := [.int .i64 3, q2]) (upd_same _ b9 _)
    rw [upd_upd, upd_upd] at h2
    have h3 := h2.upd (b := b8) (c' := [.int .i64 3, q2]) (g8 _ _)
    obtain ⟨s3, f1, f2⟩ := h3.less (σ := σ) fun d x h => by
     have e8 : d ≠ b8 := fun e => by subst e; rw [n8.2] at h; cases h
     rw [upd_ne _ _ e8]; exact hσ _ _ _ _ h
    exact W_retC c54_ok (r := .agg [.int .i64 3, q2]) (resV_cellA rfl (upd_same _ _ _) rfl) (Conv.drop _ f1) ⟨q2, rfl, f2⟩
   ·have d6 : decide (((path.length + 1 : Nat) : Int) > n.routers.length) = false := decide_eq_false (by omega)
    have d6' : decide ((path.length : Int) + 1 > n.routers.length) = false := decide_eq_false (by omega)
    simp (disch := omega) only [d6, d6', go_sem]
    exact ih (i + 1, v, path ++ [v], q2, upd s2 b9 [.int .i64 0, q2]) _ _ ⟨by simp only; omega, ⟨by simp only; omega, by simp only; omega⟩, by simp only [List.length_append, List.length_singleton]; omega, by simp only; rw [he]; congr 1; omega, .inr ho3⟩ (by simp only; omega) (by simp (disch := omega) only [subT, Int.natCast_add, Int.cast_ofNat_Int, go_sem] <;> (repeat' apply And.intro) <;> first | rfl | (congr 1; omega) | assumption) rfl
end
section
attribute [local irreducible] SRun DS DRun
variable {Γ : St} {σ σ0 : St}
def downOn (n : Net) (down : List Bool) (rs : List Rt) (i : Nat) : Bool := decide ((rs.getD i default).via ≥ 0) && down.getD (linkP n.links i (rs.getD i default).via).toNat false
def fwdCode (n : Net) (down : List Bool) (rs : List Rt) (from_ port : Int) : Int :=
 if 4096 < down.length ∨ 4096 < rs.length then 2 else if netB n = false ∨ rtsB n rs = false then 1
 else if down.length ≠ n.links.length ∨ routerB n.routers.length from_ = false ∨ inB port 0 15 = false then 5
 else if (List.range rs.length).any (downOn n down rs) then 8 else 0
def fwdA (n : Net) (down : List Bool) (rs : List Rt) (from_ port : Int) : Int × List Int := if fwdCode n down rs from_ port = 0 then walkP n rs from_ port else (0, [])
theorem rtsB_w {n : Net} {rs : List Rt} (hn : NetR n) (h : rtsB n rs = true) : rs.length = n.routers.length ∧ ViasIn rs ∧ (∀ v : Int, -3 ≤ (rtAt rs v).via) ∧ ∀ i : Nat, i < rs.length → 0 ≤ (rs.getD i default).via → 0 ≤ linkP n.links i (rs.getD i default).via := by
 have r1 := hn.r1
 simp only [rtsB, Bool.and_eq_true, decide_eq_true_eq, List.all_eq_true, List.mem_range] at h
 obtain ⟨h1, h2⟩ := h
 have hdf : ∀ v : Int, ¬ v.toNat < rs.length → rtAt rs v = default := fun v hv => by simp [rtAt, List.getD, List.getElem?_eq_none (by omega : rs.length ≤ v.toNat)]
 have h3 : ∀ i : Nat, i < rs.length → (-3 ≤ (rs.getD i default).via ∧ (rs.getD i default).via < n.routers.length) ∧ (0 ≤ (rs.getD i default).via → 0 ≤ linkP n.links i (rs.getD i default).via) := by
  intro i hi
  have := h2 i hi
  simp only [rtB, inB, Bool.and_eq_true, decide_eq_true_eq, Bool.or_eq_true] at this
  obtain ⟨⟨⟨⟨h4, _⟩, _⟩, h5⟩, _⟩ := this
  exact ⟨by omega, fun h => h5.resolve_left (by omega)⟩
 refine ⟨h1, fun v => ?_, fun v => ?_, fun i hi => (h3 i hi).2⟩
 ·by_cases hv : v.toNat < rs.length
  ·have := (h3 _ hv).1
   unfold rtAt; omega
  ·rw [hdf v hv]; show (0 : Int) < _; omega
 ·by_cases hv : v.toNat < rs.length
  ·have := (h3 _ hv).1
   unfold rtAt; omega
  ·rw [hdf v hv]; show (-3 : Int) ≤ 0; omega
theorem any_range_t {p : Nat → Bool} {m i : Nat} (hi : i < m) (h : p i = true) : (List.range m).any p = true := List.any_eq_true.2 ⟨i, List.mem_range.2 hi, h⟩
theorem any_range_f {p : Nat → Bool} {m : Nat} (h : ∀ i, i < m → p i = false) : (List.range m).any p = false := by
 rw [List.any_eq_false]; intro i hi; rw [h i (List.mem_range.1 hi)]; simp
set_option maxHeartbeats 1000000 in
theorem Forwards_own {n : Net} {ex ex2 : Bool} {down : List Bool} {rs : List Rt} {from_ port : Int} (hn : NetLen n) (hd : down.length ≤ 1000000000000) (hr : rs.length ≤ 1000000000000) :
  ACalls Tryz.prog Γ 16 [netV n, .isl ex 1 (bools down), .isl ex2 4 (rtsV rs), .int .i64 from_, .int .i64 port] σ fun r s => ∃ q, r = .tup [.agg [.int .i64 (fwdA n down rs from_ port).1, q], .int .i64 (fwdCode n down rs from_ port)] ∧ PathO σ 1 (ints (fwdA n down rs from_ port).2) q s := by
 have hlen : (netC n).take 6 = netC n := rfl
 have hlen2 : (netC n).length = 6 := rfl
 have e0 : (netC n)[0]? = some (.isl false 1 (strsV n.routers)) := rfl
 have e1 : (netC n)[1]? = some (.isl false 3 (linksV n.links)) := rfl
 have hin : ∀ a b c, (decide (b ≤ a) && decide (a ≤ c)) = inB a b c := fun _ _ _ => rfl
 have l1 := hn.routers
 have l2 := hn.links
 have hc : fwdCode n down rs from_ port = if 4096 < down.length ∨ 4096 < rs.length then 2 else if netB n = false ∨ rtsB n rs = false then 1 else if down.length ≠ n.links.length ∨ routerB n.routers.length from_ = false ∨ inB port 0 15 = false then 5 else if (List.range rs.length).any (downOn n down rs) then 8 else 0 := rfl
 have ha : fwdA n down rs from_ port = if fwdCode n down rs from_ port = 0 then walkP n rs from_ port else (0, []) := rfl
 generalize fwdCode n down rs from_ port = code at *
 generalize fwdA n down rs from_ port = A at *
 refine acalls_W c16_ok rfl ?_
 simp (disch := omega) only [c16, netV, go_sem]
 refine SRun.boxR (net_one n) ?_
 intro b5 hb5
 simp (disch := omega) only [go_sem]
 refine SRun.allocR ?_
 intro b10 hb10
 have n10 := upd_none.1 hb10
 have n5 : b5 ≠ b10 := n10.1.symm
 have g5 : ∀ z, upd (upd σ b5 (netC n)) b10 z b5 = some (netC n) := fun z => by rw [upd_ne _ _ n5, upd_same]
 have hσ : ∀ z d x, σ d = some x → upd (upd σ b5 (netC n)) b10 z d = some x := fun z d x h => le_two hb5 n10.2 _ _ _ _ h
 have bad : ∀ c : Int, code = c → c ≠ 0 → ∃ q, V.tup [.agg [.int .i64 0, .isl true 0 []], .int .i64 c] = .tup [.agg [.int .i64 A.1, q], .int .i64 code] ∧ PathO σ 1 (ints A.2) q σ := fun c h1 h2 => by
  rw [if_neg (by rw [h1]; exact h2)] at ha
  rw [ha, h1]; exact ⟨_, rfl, .inr (OwnL.nil _ _)⟩
 simp (disch := omega) only [go_sem]
 by_cases c1 : 4096 < down.length ∨ 4096 < rs.length
 ·rw [if_pos c1] at hc
  by_cases c2 : (down.length : Int) > 4096
  ·have d2 : decide ((down.length : Int) > 4096) = true := decide_eq_true c2
   simp (disch := omega) only [d2, go_sem]
   exact W_retC c16_ok (r := .tup [.agg [.int .i64 0, .isl true 0 []], .int .i64 2]) (σ' := σ) (resV_cellT rfl (upd_same _ _ _) rfl rfl) (Conv.drop _ (hσ _)) (bad 2 hc (by decide))
  ·have d2 : decide ((down.length : Int) > 4096) = false := decide_eq_false c2
   have d3 : decide ((rs.length : Int) > 4096) = true := decide_eq_true (by omega)
   simp (disch := omega) only [d2, d3, go_sem]
   exact W_retC c16_ok (r := .tup [.agg [.int .i64 0, .isl true 0 []], .int .i64 2]) (σ' := σ) (resV_cellT rfl (upd_same _ _ _) rfl rfl) (Conv.drop _ (hσ _)) (bad 2 hc (by decide))
 rw [if_neg c1] at hc
 have d2 : decide ((down.length : Int) > 4096) = false := decide_eq_false (by omega)
 have d3 : decide ((rs.length : Int) > 4096) = false := decide_eq_false (by omega)
 simp (disch := omega) only [d2, d3, g5, hlen, hlen2, go_sem]
 refine SRun.callR (NetOK_ok hn) ⟨[], rfl, rfl⟩ rfl ?_
 cases c4 : netB n with
 | false =>
  rw [if_pos (.inl c4)] at hc
  simp (disch := omega) only [go_sem]
  exact W_retC c16_ok (r := .tup [.agg [.int .i64 0, .isl true 0 []], .int .i64 1]) (σ' := σ) (resV_cellT rfl (upd_same _ _ _) rfl rfl) (Conv.drop _ (hσ _)) (bad 1 hc (by decide))
 | true =>
 have hR := netR_of c4
 simp (disch := omega) only [g5, hlen, hlen2, go_sem]
 refine SRun.callR (l07Routes_ok (ex := ex2) hR hr) ⟨[], rfl, rfl⟩ rfl ?_
 cases c5 : rtsB n rs with
 | false =>
  rw [if_pos (.inr c5)] at hc
  simp (disch := omega) only [go_sem]
  exact W_retC c16_ok (r := .tup [.agg [.int .i64 0, .isl true 0 []], .int .i64 1]) (σ' := σ) (resV_cellT rfl (upd_same _ _ _) rfl rfl) (Conv.drop _ (hσ _)) (bad 1 hc (by decide))
 | true =>
 rw [c4, c5, if_neg (by simp)] at hc
 obtain ⟨w1, w2, w3, w4⟩ := rtsB_w hR c5
 have hrt : ∀ x r : Int, (decide (0 ≤ x) && decide (x ≤ r - 1)) = routerB r x := fun _ _ => rfl
 by_cases c6 : down.length = n.links.length
 case' neg =>
  have d6 : (decide ¬ (down.length : Int) = n.links.length) = true := decide_eq_true (by omega)
  rw [if_pos (.inl c6)] at hc
  simp (disch := omega) only [g5, e1, d6, go_sem]
  exact W_retC c16_ok (r := .tup [.agg [.int .i64 0, .isl true 0 []], .int .i64 5]) (σ' := σ) (resV_cellT rfl (upd_same _ _ _) rfl rfl) (Conv.drop _ (hσ _)) (bad 5 hc (by decide))
 have d6 : (decide ¬ (down.length : Int) = n.links.length) = false := decide_eq_false (by omega)
 simp (disch := omega) only [g5, e0, e1, d6, go_sem]
 refine SRun.callR (l01In_ok from_ 0 ((n.routers.length : Int) - 1)) ⟨[], rfl, rfl⟩ rfl ?_
 rw [hrt]
 cases c7 : routerB n.routers.length from_ with
 | false =>
  rw [if_pos (.inr (.inl c7))] at hc
  simp (disch := omega) only [go_sem]
  exact W_retC c16_ok (r := .tup [.agg [.int .i64 0, .isl true 0 []], .int .i64 5]) (σ' := σ) (resV_cellT rfl (upd_same _ _ _) rfl rfl) (Conv.drop _ (hσ _)) (bad 5 hc (by decide))
 | true =>
 simp (disch := omega) only [go_sem]
 refine SRun.callR (l01In_ok port 0 15) ⟨[], rfl, rfl⟩ rfl ?_
 rw [hin]
 cases c8 : inB port 0 15 with
 | false =>
  rw [if_pos (.inr (.inr c8))] at hc
  simp (disch := omega) only [go_sem]
  exact W_retC c16_ok (r := .tup [.agg [.int .i64 0, .isl true 0 []], .int .i64 5]) (σ' := σ) (resV_cellT rfl (upd_same _ _ _) rfl rfl) (Conv.drop _ (hσ _)) (bad 5 hc (by decide))
 | true =>
 rw [c7, c8, if_neg (by simp [c6])] at hc
 have hfr : 0 ≤ from_ ∧ from_ < rs.length := by simp only [routerB, Bool.and_eq_true, decide_eq_true_eq] at c7; omega
 have gg5 := g5 [.int .i64 0, .isl true 0 []]
 have gg10 := upd_same (upd σ b5 (netC n)) b10 [.int .i64 0, .isl true 0 []]
 have hhσ := hσ [.int .i64 0, .isl true 0 []]
 simp (disch := omega) only [go_sem]
 generalize hs1 : upd (upd σ b5 (netC n)) b10 [.int .i64 0, .isl true 0 []] = s1 at *
 refine W_loopC (α := Nat) (fun i => i ≤ rs.length ∧ ∀ j, j < i → downOn n down rs j = false) (fun i => [(1, .isl ex 1 (bools down)), (2, .isl ex2 4 (rtsV rs)), (3, .int .i64 from_), (4, .int .i64 port), (5, .ptr b5 0), (10, .ptr b10 0), (12, .int .i64 (i : Nat))]) (fun _ => s1) (fun i => rs.length - i) 0 ⟨by omega, fun j hj => by omega⟩ (by simp (disch := omega) only [subT, Int.natCast_add, Int.cast_ofNat_Int, go_sem] <;> (repeat' apply And.intro) <;> first | rfl | (congr 1; omega) | assumption) rfl ?_
 rintro i ⟨hi, hall⟩ ih
 simp (disch := omega) only [go_sem]
 first | refine iteW_dec (fun h1 => ?_) (fun h1 => ?_) | refine iteW_of (fun h1 => ?_) (fun h1 => ?_)
 ·have hdef : downOn n down rs i = (decide ((rs.getD i default).via ≥ 0) && down.getD (linkP n.links i (rs.getD i default).via).toNat false) := rfl
  have hw4 := w4 i (by omega)
  have hrt0 : ∀ r : Rt, (rtC r)[0]? = some (.int .i64 r.via) := fun _ => rfl
  have hlk := linkP_in n.links i (rs.getD i default).via
  simp (disch := omega) only [go_sem]
  refine W_drawW ?_
  simp (disch := omega) only [hrt0, go_sem]
  generalize hgv : (rs.getD i default).via = v at *
  by_cases c9 : v ≥ 0
  ·have d9 : decide (v ≥ 0) = true := decide_eq_true c9
   have hw5 := hw4 (by omega)
   rw [d9, Bool.true_and] at hdef
   simp (disch := omega) only [d9, go_sem]
   refine DRun.mixE rfl ?_
   simp (disch := omega) only [d9, gg5, e1, hrt0, hgv, go_sem]
   refine DS.callG (ACalls.mono _ _ (l06Link_ok (σ := emp) (ex := false) (ls := n.links) (x := i) (y := v) (by omega)) fun _ _ h => h) ⟨[], rfl, rfl⟩ rfl rfl ?_
   rintro r s ⟨rfl, hs⟩ _
   obtain rfl := hs.symm
   simp (disch := omega) only [go_sem]
   rw [← hdef]
   cases c10 : downOn n down rs i with
   | true =>
    rw [if_pos (any_range_t (i := i) (by omega) c10)] at hc
    simp (disch := omega) only [gg10, go_sem]
    subst hs1
    exact W_retC c16_ok (r := .tup [.agg [.int .i64 0, .isl true 0 []], .int .i64 8]) (σ' := σ) (resV_cellT rfl (upd_same _ _ _) rfl rfl) (Conv.drop _ fun d x h => by rw [upd_upd]; exact hσ _ _ _ h) (bad 8 hc (by decide))
   | false =>
    simp (disch := omega) only [go_sem]
    refine ih (i + 1) _ _ ⟨by omega, fun j hj => ?_⟩ (by omega) (by simp (disch := omega) only [subT, Int.natCast_add, Int.cast_ofNat_Int, go_sem] <;> (repeat' apply And.intro) <;> first | rfl | (congr 1; omega) | assumption) rfl
    by_cases e : j = i
    ·subst e; exact c10
    ·exact hall j (by omega)
  ·have d9 : decide (v ≥ 0) = false := decide_eq_false c9
   rw [d9, Bool.false_and] at hdef
   simp (disch := omega) only [d9, go_sem]
   refine DRun.mixE rfl ?_
   simp (disch := omega) only [go_sem]
   refine DS.skipG rfl rfl ?_
   simp (disch := omega) only [go_sem]
   refine ih (i + 1) _ _ ⟨by omega, fun j hj => ?_⟩ (by omega) (by simp (disch := omega) only [subT, Int.natCast_add, Int.cast_ofNat_Int, go_sem] <;> (repeat' apply And.intro) <;> first | rfl | (congr 1; omega) | assumption) rfl
   by_cases e : j = i
   ·subst e; exact hdef
   ·exact hall j (by omega)
 ·have hil : i = rs.length := by omega
  subst hil
  rw [any_range_f hall, if_neg (by simp)] at hc
  rw [if_pos hc] at ha
  rw [ha, hc]
  simp (disch := omega) only [gg5, hlen, hlen2, go_sem]
  refine SRun.callQ (l08Walk_own (ex := ex2) hn.filters (by omega) w2 w3 hfr) ⟨[], rfl, rfl⟩ rfl ?_
  rintro r s ⟨q, rfl, hp⟩
  simp (disch := omega) only [hp.get gg10, hp.one, hp.cells, go_sem]
  have hp2 := hp.upd (c' := [.int .i64 (walkP n rs from_ port).1, q]) gg10
  obtain ⟨s3, f1, f2⟩ := hp2.less (σ := σ) fun d x h => by
   have e10 : d ≠ b10 := fun e => by subst e; rw [n10.2] at h; cases h
   rw [upd_ne _ _ e10]; exact hhσ _ _ h
  exact W_retC c16_ok (r := .tup [.agg [.int .i64 (walkP n rs from_ port).1, q], .int .i64 0]) (resV_cellT rfl (upd_same _ _ _) rfl rfl) (Conv.drop _ f1) ⟨q, rfl, f2⟩
end
section
attribute [local irreducible] SRun DS DRun
variable {Γ : St} {σ σ0 : St}
def propC (k f p w : Int) : List V := [.int .i64 k, .int .i64 f, .int .i64 p, .int .i64 w]
def propB (n : Net) (k f p w : Int) : Bool := netB n && inB k 1 4 && routerB n.routers.length f && inB p (-1) 15 && (if k = 3 then routerB n.routers.length w else decide (w = 0))
theorem prop_one (k f p w : Int) : ∀ c ∈ (V.agg (propC k f p w)).cells, c.one = true := by simp [propC, V.cells, V.one]
theorem isProperty_ok {n : Net} (hn : NetLen n) {kd f p w : Int} : Ret Tryz.prog Γ 39 [netV n, .agg (propC kd f p w)] σ (.bool (propB n kd f p w)) σ := by
 have hlen : (netC n).take 6 = netC n := rfl
 have hlen2 : (netC n).length = 6 := rfl
 have hin : ∀ a b c, (decide (b ≤ a) && decide (a ≤ c)) = inB a b c := fun _ _ _ => rfl
 refine ret_of c39_ok rfl ?_
 simp (disch := omega) only [c39, netV, go_sem]
 refine SRun.boxR (net_one n) ?_
 intro b1 hb1
 have g1 := upd_same σ b1 (netC n)
 have hσ : ∀ d y, σ d = some y → upd σ b1 (netC n) d = some y := le_upd hb1
 simp (disch := omega) only [go_sem]
 generalize upd σ b1 (netC n) = s1 at *
 refine SRun.boxR (prop_one kd f p w) ?_
 intro b2 hb2
 have f1 := le_upd (cs := propC kd f p w) hb2 _ _ g1
 have f2 := upd_same s1 b2 (propC kd f p w)
 have hσ2 : ∀ d y, σ d = some y → upd s1 b2 (propC kd f p w) d = some y := fun d y h => le_upd hb2 _ _ (hσ d y h)
 have p0 : (propC kd f p w)[0]? = some (.int .i64 kd) := rfl
 have p1 : (propC kd f p w)[1]? = some (.int .i64 f) := rfl
 have p2 : (propC kd f p w)[2]? = some (.int .i64 p) := rfl
 have p3 : (propC kd f p w)[3]? = some (.int .i64 w) := rfl
 simp (disch := omega) only [go_sem]
 generalize upd s1 b2 (propC kd f p w) = s2 at *
 simp (disch := omega) only [f1, hlen, hlen2, go_sem]
 refine SRun.callR (isNet_ok hn) ⟨[], rfl, rfl⟩ rfl ?_
 have hd1 : propB n kd f p w = (netB n && inB kd 1 4 && routerB n.routers.length f && inB p (-1) 15 && (if kd = 3 then routerB n.routers.length w else decide (w = 0))) := rfl
 generalize netB n = q1 at *
 cases q1
 ·simp (disch := omega) only [go_sem]
  exact W_retC c39_ok rfl (Conv.drop _ hσ2) ⟨by rw [hd1]; simp [look], rfl⟩
 simp (disch := omega) only [f2, p0, go_sem]
 refine SRun.callR (within_ok _ _ _) ⟨[], rfl, rfl⟩ rfl ?_
 rw [hin]
 generalize inB kd 1 4 = q2 at *
 cases q2
 ·simp (disch := omega) only [go_sem]
  exact W_retC c39_ok rfl (Conv.drop _ hσ2) ⟨by rw [hd1]; simp [look], rfl⟩
 simp (disch := omega) only [f1, f2, p1, hlen, hlen2, go_sem]
 refine SRun.callR (isRouter_ok hn.routers) ⟨[], rfl, rfl⟩ rfl ?_
 generalize routerB n.routers.length f = q3 at *
 cases q3
 ·simp (disch := omega) only [go_sem]
  exact W_retC c39_ok rfl (Conv.drop _ hσ2) ⟨by rw [hd1]; simp [look], rfl⟩
 simp (disch := omega) only [f2, p2, go_sem]
 refine SRun.callR (within_ok _ _ _) ⟨[], rfl, rfl⟩ rfl ?_
 rw [hin]
 generalize inB p (-1) 15 = q4 at *
 cases q4
 ·simp (disch := omega) only [go_sem]
  exact W_retC c39_ok rfl (Conv.drop _ hσ2) ⟨by rw [hd1]; simp [look], rfl⟩
 simp (disch := omega) only [f2, p0, go_sem]
 first | refine iteW_dec (fun h3 => ?_) (fun h3 => ?_) | refine iteW_of (fun h3 => ?_) (fun h3 => ?_)
 ·simp (disch := omega) only [f1, f2, p3, hlen, hlen2, go_sem]
  refine SRun.callR (isRouter_ok hn.routers) ⟨[], rfl, rfl⟩ rfl ?_
  simp (disch := omega) only [go_sem]
  exact W_retC c39_ok rfl (Conv.drop _ hσ2) ⟨by rw [hd1, if_pos h3]; simp [look], rfl⟩
 ·simp (disch := omega) only [f2, p3, go_sem]
  exact W_retC c39_ok rfl (Conv.drop _ hσ2) ⟨by rw [hd1, if_neg h3]; simp [look], rfl⟩
/-- Whether a way satisfies a property. -/
def satP (kd way : Int) (w : Int × List Int) : Bool :=
 if kd = 1 then decide (w.1 = 1) || decide (w.1 = 2) else if kd = 2 then !(decide (w.1 = 1) || decide (w.1 = 2))
 else if kd = 3 then !(decide (w.1 = 1) || decide (w.1 = 2)) || hasB w.2 way else decide (w.1 = 1)
set_option maxHeartbeats 1000000 in
theorem isSatisfied_ok {kd f p way o : Int} {ex : Bool} {path : List Int} (hl : path.length ≤ 1000000000000) : Ret Tryz.prog Γ 53 [.agg (propC kd f p way), .agg [.int .i64 o, .isl ex 1 (ints path)]] σ (.bool (satP kd way (o, path))) σ := by
 have p0 : (propC kd f p way)[0]? = some (.int .i64 kd) := rfl
 have p3 : (propC kd f p way)[3]? = some (.int .i64 way) := rfl
 refine ret_of c53_ok rfl ?_
 simp (disch := omega) only [c53, go_sem]
 refine SRun.boxR (prop_one kd f p way) ?_
 intro b2 hb2
 simp (disch := omega) only [go_sem]
 refine SRun.boxR (by simp [ev, look, V.cells, V.one]) ?_
 intro b3 hb3
 have n3 := upd_none.1 hb3
 have n23 : b2 ≠ b3 := n3.1.symm
 have hle := le_two hb2 n3.2
 have hdef : satP kd way (o, path) = if kd = 1 then decide (o = 1) || decide (o = 2) else if kd = 2 then !(decide (o = 1) || decide (o = 2)) else if kd = 3 then !(decide (o = 1) || decide (o = 2)) || hasB path way else decide (o = 1) := rfl
 generalize m1 : decide (o = 1) = q1 at *
 generalize m2 : decide (o = 2) = q2 at *
 by_cases k1 : kd = 1
 ·have d1 : decide (kd = 1) = true := decide_eq_true k1
  rw [if_pos k1] at hdef
  cases q1 <;> cases q2
  all_goals
   simp (disch := omega) only [p0, p3, n23, m1, m2, d1, go_sem]
   exact W_retC c53_ok rfl (Conv.drop _ (hle _ _)) ⟨by rw [hdef]; rfl, rfl⟩
 have d1 : decide (kd = 1) = false := decide_eq_false k1
 rw [if_neg k1] at hdef
 by_cases k2 : kd = 2
 ·have d2 : decide (kd = 2) = true := decide_eq_true k2
  rw [if_pos k2] at hdef
  cases q1 <;> cases q2
  all_goals
   simp (disch := omega) only [p0, p3, n23, m1, m2, d1, d2, go_sem]
   exact W_retC c53_ok rfl (Conv.drop _ (hle _ _)) ⟨by rw [hdef]; rfl, rfl⟩
 have d2 : decide (kd = 2) = false := decide_eq_false k2
 rw [if_neg k2] at hdef
 by_cases k3 : kd = 3
 ·have d3 : decide (kd = 3) = true := decide_eq_true k3
  rw [if_pos k3] at hdef
  have hC := fun Γ σ => containsInt_ok (Γ := Γ) (σ := σ) (ex := ex) (xs := path) (x := way) hl
  generalize hasB path way = q3 at *
  cases q1 <;> cases q2
  case' false.false =>
   simp (disch := omega) only [p0, p3, n23, m1, m2, d1, d2, d3, go_sem]
  case' false.true =>
   simp (disch := omega) only [p0, p3, n23, m1, m2, d1, d2, d3, go_sem]
   refine SRun.callR (hC _ _) ⟨[], rfl, rfl⟩ rfl ?_
   simp (disch := omega) only [go_sem]
  case' true.false =>
   simp (disch := omega) only [p0, p3, n23, m1, m2, d1, d2, d3, go_sem]
   refine SRun.callR (hC _ _) ⟨[], rfl, rfl⟩ rfl ?_
   simp (disch := omega) only [go_sem]
  case' true.true =>
   simp (disch := omega) only [p0, p3, n23, m1, m2, d1, d2, d3, go_sem]
   refine SRun.callR (hC _ _) ⟨[], rfl, rfl⟩ rfl ?_
   simp (disch := omega) only [go_sem]
  all_goals
   exact W_retC c53_ok rfl (Conv.drop _ (hle _ _)) ⟨by rw [hdef]; rfl, rfl⟩
 have d3 : decide (kd = 3) = false := decide_eq_false k3
 rw [if_neg k3] at hdef
 cases q1 <;> cases q2
 all_goals
  simp (disch := omega) only [p0, p3, n23, m1, m2, d1, d2, d3, go_sem]
  exact W_retC c53_ok rfl (Conv.drop _ (hle _ _)) ⟨by rw [hdef]; rfl, rfl⟩
theorem Satisfied_ok {n : Net} {kd f p way o : Int} {ex : Bool} {path : List Int} (hn : NetLen n) (hp : propB n kd f p way = true) (ho : 1 ≤ o ∧ o ≤ 4) (hl : path.length ≤ 1000000000000) : Ret Tryz.prog Γ 17 [netV n, .agg (propC kd f p way), .agg [.int .i64 o, .isl ex 1 (ints path)]] σ (.tup [.bool (satP kd way (o, path)), .int .i64 0]) σ := by
 have hlen : (netC n).take 6 = netC n := rfl
 have hlen2 : (netC n).length = 6 := rfl
 have hpl : (propC kd f p way).take 4 = propC kd f p way := rfl
 have hpl2 : (propC kd f p way).length = 4 := rfl
 refine ret_of c17_ok rfl ?_
 simp (disch := omega) only [c17, netV, go_sem]
 refine SRun.boxR (net_one n) ?_
 intro b3 hb3
 have g3 := upd_same σ b3 (netC n)
 have hσ : ∀ d y, σ d = some y → upd σ b3 (netC n) d = some y := le_upd hb3
 simp (disch := omega) only [go_sem]
 generalize upd σ b3 (netC n) = s1 at *
 refine SRun.boxR (prop_one kd f p way) ?_
 intro b4 hb4
 have f3 := le_upd (cs := propC kd f p way) hb4 _ _ g3
 have f4 := upd_same s1 b4 (propC kd f p way)
 have hσ2 : ∀ d y, σ d = some y → upd s1 b4 (propC kd f p way) d = some y := fun d y h => le_upd hb4 _ _ (hσ d y h)
 simp (disch := omega) only [go_sem]
 generalize upd s1 b4 (propC kd f p way) = s2 at *
 refine SRun.boxR (by simp [ev, look, V.cells, V.one]) ?_
 intro b5 hb5
 simp (disch := omega) only [go_sem]
 have e3 := le_upd (cs := [.int .i64 o, .isl ex 1 (ints path)]) hb5 _ _ f3
 have e4 := le_upd (cs := [.int .i64 o, .isl ex 1 (ints path)]) hb5 _ _ f4
 have e5 := upd_same s2 b5 [.int .i64 o, .isl ex 1 (ints path)]
 have hσ3 : ∀ d y, σ d = some y → upd s2 b5 [.int .i64 o, .isl ex 1 (ints path)] d = some y := fun d y h => le_upd hb5 _ _ (hσ2 d y h)
 generalize upd s2 b5 [.int .i64 o, .isl ex 1 (ints path)] = s3 at *
 simp (disch := omega) only [e3, e4, hlen, hlen2, hpl, hpl2, go_sem]
 refine SRun.callR (isProperty_ok hn) ⟨[], rfl, rfl⟩ rfl ?_
 rw [hp]
 simp (disch := omega) only [e5, go_sem]
 refine SRun.callR (within_ok o 1 4) ⟨[], rfl, rfl⟩ rfl ?_
 rw [decide_eq_true ho.1, decide_eq_true ho.2]
 simp (disch := omega) only [e4, e5, hpl, hpl2, Bool.and_self, go_sem]
 refine SRun.callR (isSatisfied_ok hl) ⟨[], rfl, rfl⟩ rfl ?_
 simp (disch := omega) only [go_sem]
 exact W_retC c17_ok rfl (Conv.drop _ hσ3) ⟨rfl, rfl⟩
end
section
attribute [local irreducible] SRun DS DRun
variable {Γ : St} {σ σ0 : St}
section
variable {P : Program} {f : FuncId} {n : Nat} {Q : V → St → Prop} {k : List It} {T : Ts}
/-- One block is written, the rest is read, and new blocks may come. -/
theorem DRun.mixR1 {b : Nat} {c : List V} {t : DT} {segs : List DT} (hb : σ b = some c) (R : Ts → St → Prop) (hr : rdOK t = true) (h : DSW P Γ (del σ b) t T (upd emp b c) R) (hk : ∀ T s, R T s → WD P Γ f n Q k segs T (cup s (del σ b))) : DRun P Γ f n Q (t :: segs) k T σ := by
 with_unfolding_all exact ⟨upd emp b c, del σ b, (fun m => by
  by_cases e : m = b
  ·subst e; exact .inr (del_same _ _)
  ·exact .inl (by rw [upd_ne _ _ e]; rfl)), (by
  funext m
  by_cases e : m = b
  ·subst e; simp [cup, upd, hb]
  ·simp [cup, upd, emp, del, e]), DS.mono (fun T s hR => (hk T s hR).sound) (DS.of hr h)⟩
theorem cup_del2 {b b2 : Nat} {c z : List V} (hne : b2 ≠ b) : cup (upd (upd emp b c) b2 z) (del σ b) = upd (upd σ b c) b2 z := by
 funext m
 by_cases e2 : m = b2
 ·subst e2; simp [cup, upd]
 ·by_cases e : m = b
  ·subst e; simp [cup, upd, e2]
  ·simp [cup, upd, emp, del, e, e2]
end
theorem l06Insert_ok {ex : Bool} {xs : List Int} {x : Int} (hl : xs.length ≤ 1000000000) : Ret Tryz.prog Γ 87 [.isl ex 1 (ints xs), .int .i64 x] σ (.tup [.isl false 1 (ints (insP xs x)), .bool (insO xs x)]) σ := by
 have hkl := insK_le xs x
 refine ret_of c87_ok rfl ?_
 simp (disch := omega) only [c87, go_sem]
 refine W_loopC (α := Nat) (fun i => i ≤ insK xs x) (fun i => [(0, .isl ex 1 (ints xs)), (1, .int .i64 x), (6, .int .i64 (i : Nat))]) (fun _ => σ) (fun i => insK xs x - i) 0 (by omega) (by simp (disch := omega) only [subT, Int.natCast_add, Int.cast_ofNat_Int, go_sem] <;> (repeat' apply And.intro) <;> first | rfl | (congr 1; omega) | assumption) rfl ?_
 intro i hi ih
 simp (disch := omega) only [go_sem]
 have step : ∀ (b : Bool), True := fun _ => trivial
 clear step
 by_cases h1 : i < insK xs x
 ·have hb := insK_before h1
  have d1 : decide ((i : Int) < xs.length) = true := decide_eq_true (by omega)
  simp (disch := omega) only [d1, go_sem]
  have d2 : decide (xs.getD i 0 < x) = true := decide_eq_true hb
  simp (disch := omega) only [d2, go_sem]
  exact ih (i + 1) _ _ (by omega) (by omega) (by simp (disch := omega) only [subT, Int.natCast_add, Int.cast_ofNat_Int, go_sem] <;> (repeat' apply And.intro) <;> first | rfl | (congr 1; omega) | assumption) rfl
 ·have hik : i = insK xs x := by omega
  subst hik
  clear ih
  have hst := insK_stop (xs := xs) (n := x)
  have ho : insO xs x = !(decide (insK xs x < xs.length) && decide (xs.getD (insK xs x) 0 = x)) := rfl
  have hp : insP xs x = if insO xs x then xs.take (insK xs x) ++ [x] ++ xs.drop (insK xs x) else xs := rfl
  generalize insK xs x = i at *
  by_cases c1 : i < xs.length ∧ xs.getD i 0 = x
  ·have d1 : decide ((i : Int) < xs.length) = true := decide_eq_true (by omega)
   have d2 : decide (xs.getD i 0 < x) = false := decide_eq_false (by omega)
   have d3 : decide (xs.getD i 0 = x) = true := decide_eq_true c1.2
   rw [decide_eq_true c1.1, d3] at ho
   rw [ho] at hp
   have hp2 : insP xs x = xs := hp
   rw [hp2, ho]
   simp (disch := omega) only [d1, d2, d3, go_sem]
   exact W_retC c87_ok (r := .tup [.isl ex 1 (ints xs), .bool false]) rfl ⟨fun _ _ h => h, frz_tup (by exact ⟨.isl _ _ _, .refl _, trivial⟩)⟩ ⟨rfl, rfl⟩
  ·have ho2 : insO xs x = true := by
    rw [ho]
    by_cases c2 : i < xs.length
    ·rw [decide_eq_false (fun h => c1 ⟨c2, h⟩)]; simp
    ·rw [decide_eq_false c2]; rfl
   rw [ho2, if_pos rfl] at hp
   rw [hp, ho2]
   by_cases c2 : i < xs.length
   case' pos =>
    have d1 : decide ((i : Int) < xs.length) = true := decide_eq_true (by omega)
    have d2 : decide (xs.getD i 0 < x) = false := decide_eq_false (by have := hst c2; omega)
    have d3 : decide (xs.getD i 0 = x) = false := decide_eq_false (fun h => c1 ⟨c2, h⟩)
    simp (disch := omega) only [d1, d2, d3, go_sem]
   case' neg =>
    have d1 : decide ((i : Int) < xs.length) = false := decide_eq_false (by omega)
    simp (disch := omega) only [d1, go_sem]
   all_goals
    rw [W_draw]
    have t1 : List.take ((i : Int) - 0).toNat (ints xs) = ints (xs.take i) := by rw [show ((i : Int) - 0).toNat = i by omega]; simp [ints, List.map_take]
    have t2 : List.take ((xs.length : Int) - i).toNat (List.drop i (ints xs)) = ints (xs.drop i) := by rw [List.take_of_length_le (by rw [List.length_drop, ints_len]; omega)]; simp [ints, List.map_drop]
    refine DRun.start (DRun.mixN rfl ?_)
    simp (disch := omega) only [go_sem]
    refine DS.wrQ (WrF.appL (OwnL.nil (σ0 := emp) 1 1) (congrArg (V.isl _ 1) t1) (ints_ok (xs.take i)) (by simp only [ints_len, List.length_nil, List.length_take]; omega)) rfl ?_
    intro r1 s1' hr1 _
    have hr1' := OwnL.of_app (OwnL.nil (σ0 := emp) 1 1) (ints_ok (xs.take i)) hr1
    rw [List.nil_append] at hr1'
    simp (disch := omega) only [go_sem]
    refine DS.wrQ (WrF.appL hr1' rfl (ints1_ok x) (by simp only [ints_len, List.length_take, List.length_singleton]; omega)) rfl ?_
    intro r2 s2' hr2 hdj
    have hr2' := OwnL.of_app hr1' (ints1_ok x) hr2
    rw [ints_app] at hr2'
    have hr3 := ownL_join hr2' hdj
    simp (disch := omega) only [go_sem]
    refine DRun.appL hr3 (congrArg (V.isl _ 1) t2) (ints_ok (xs.drop i)) (by simp only [ints_len, List.length_append, List.length_take, List.length_singleton, List.length_drop]; omega) ?_
    intro r3 s3 hr4
    have he : ints (xs.take i ++ [x]) ++ ints (xs.drop i) = ints (xs.take i ++ [x] ++ xs.drop i) := by simp [ints]
    rw [he] at hr4
    simp (disch := omega) only [go_sem]
    exact W_retC c87_ok (r := .tup [r3, .bool true]) (r' := .tup [.isl false 1 (ints (xs.take i ++ [x] ++ xs.drop i)), .bool true]) rfl ⟨hr4.le, frz_tup (by exact ⟨hr4.conv.2, .refl _, trivial⟩)⟩ ⟨rfl, rfl⟩
end
section
attribute [local irreducible] SRun DS DRun
variable {Γ : St} {σ σ0 : St}
def names4 (k : Nat) : List (List UInt8) := [[97], [98], [99], [100]].take k
theorem names4_len {k : Nat} (h : k ≤ 4) : (names4 k).length = k := by simp [names4]; omega
theorem names4_ok {k : Nat} (h : k ≤ 4) : (List.range (names4 k).length).all (nameAt (names4 k)) = true := by
 rw [names4_len h]
 match k, h with
 | 0, _ => rfl
 | 1, _ => rfl
 | 2, _ => rfl
 | 3, _ => rfl
 | 4, _ => rfl
theorem link1_ok (l : Link) : ∀ y ∈ [V.agg (linkC l)], y.cells.length = 3 ∧ ∀ c ∈ y.cells, c.one = true := by
 intro y hy; rw [List.mem_singleton.1 hy]; simp [V.cells, linkC, V.one]
theorem links_app (ls : List Link) (l : Link) : linksV ls ++ [.agg (linkC l)] = linksV (ls ++ [l]) := by simp [linksV]
theorem imp1_ok (x : Imp) : ∀ y ∈ [V.agg (impC x)], y.cells.length = 5 ∧ ∀ c ∈ y.cells, c.one = true := by
 intro y hy; rw [List.mem_singleton.1 hy]; simp [V.cells, impC, V.one]
theorem imps_app (ls : List Imp) (l : Imp) : impsV ls ++ [.agg (impC l)] = impsV (ls ++ [l]) := by simp [impsV]
theorem filn1_ok (x : Fil) : ∀ y ∈ [V.agg (filC x)], y.cells.length = 4 ∧ ∀ c ∈ y.cells, c.one = true := by
 intro y hy; rw [List.mem_singleton.1 hy]; simp [V.cells, filC, V.one]
theorem filsn_app (fs : List Fil) (x : Fil) : filsV fs ++ [.agg (filC x)] = filsV (fs ++ [x]) := by simp [filsV]
def Z6 : List V := [.isl true 0 [], .isl true 0 [], .isl true 0 [], .isl true 0 [], .isl true 0 [], .isl true 0 []]
theorem le_boxes {M : St} {b3 b10 b11 : Nat} {F F' y z : List V} (h10 : M b10 = none) (h11 : M b11 = none) (h3 : M b3 = some F) : ∀ d x, upd M b3 F' d = some x → upd (upd (upd M b10 y) b11 z) b3 F' d = some x := by
 intro d x h
 by_cases e : d = b3
 ·subst e; rw [upd_same] at h ⊢; exact h
 ·rw [upd_ne _ _ e] at h ⊢
  have e10 : d ≠ b10 := fun e => by subst e; rw [h10] at h; cases h
  have e11 : d ≠ b11 := fun e => by subst e; rw [h11] at h; cases h
  rw [upd_ne _ _ e11, upd_ne _ _ e10]; exact h
set_option maxHeartbeats 4000000 in
theorem net_ok {b : Nat} {ex : Bool} {code : List UInt8} {s : Int} (hb : σ b = some (srcC ex code 0 s)) (hs : 0 ≤ s ∧ s < 2147483648) :
  ACalls Tryz.prog Γ 37 [.ptr b 0] σ fun r σ' => ∃ n a' s', netB n = true ∧ NetLen n ∧ n.origins.length ≤ 4 ∧ 0 ≤ a' ∧ a' ≤ 1000 ∧ 0 ≤ s' ∧ s' < 2147483648 ∧ r = netV n ∧ σ' = upd σ b (srcC ex code a' s') := by
 refine acalls_W c37_ok rfl ?_
 simp (disch := omega) only [c37, go_sem]
 refine SRun.allocR ?_
 intro b2 hb2
 have e2 : b2 ≠ b := fun e => by subst e; rw [hb] at hb2; cases hb2
 have e2' : b ≠ b2 := e2.symm
 have hbz : ∀ z, upd σ b2 z b = some (srcC ex code 0 s) := fun z => by rw [upd_ne _ _ e2']; exact hb
 simp (disch := omega) only [go_sem]
 refine SRun.callQ (next_ok (hbz _) (by omega) hs) ⟨[], rfl, rfl⟩ rfl ?_
 rintro r σ1 ⟨v, a1, s1, j1, j2, j3, j4, j5, j6, j7, rfl, rfl⟩
 have hv := j3 (by omega)
 obtain ⟨v, rfl⟩ : ∃ v' : Nat, v = v' := ⟨v.toNat, by omega⟩
 have hR : List.take (1 + (v : Int) - 0).toNat [V.str [97], .str [98], .str [99], .str [100]] = strsV (names4 (v + 1)) := by
  rw [show (1 + (v : Int) - 0).toNat = v + 1 by omega]; simp [names4, strsV, List.map_take]
 have hkl : (names4 (v + 1)).length = v + 1 := names4_len (by omega)
 simp (disch := omega) only [hR, go_sem]
 generalize hRV : V.isl (decide (1 + (v : Int) = 4)) 1 (strsV (names4 (v + 1))) = R
 have hR1 : R.one = true := by subst hRV; rfl
 have hRc : R.cells = [R] := by subst hRV; rfl
 have hRlen : ∀ {P : Program} {f : FuncId} {n : Nat} {Q : V → St → Prop} {k : List It} {T : Ts} {g : GI} {l : List GI} {σ : St}, stepW P Γ f n Q (.len (.c R)) g l k T σ = W P Γ f n Q (.ops l :: k) (putT T g.d (.int .i64 ((v : Int) + 1))) σ := by
  intros; subst hRV; rw [stepW_len_isl, strsV_len, hkl]; rfl
 refine SRun.allocR ?_
 intro b3 hb3
 have n3 := upd_none.1 hb3
 have n3' := upd_none.1 n3.2
 have e3 : b3 ≠ b := n3.1
 have e3' : b ≠ b3 := e3.symm
 have e32 : b3 ≠ b2 := n3'.1
 have e23 : b2 ≠ b3 := e32.symm
 have hZ : [V.isl true 0 [], .isl true 0 [], .isl true 0 [], .isl true 0 [], .isl true 0 [], .isl true 0 []] = Z6 := rfl
 simp (disch := omega) only [hR1, hRc, go_sem]
 rw [hZ]
 generalize hs0 : upd σ b2 Z6 = s0
 have hσ0 : ∀ d x, σ d = some x → s0 d = some x := by subst hs0; exact le_upd hb2
 have g2 : s0 b2 = some Z6 := by subst hs0; exact upd_same _ _ _
 have h03 : s0 b3 = none := by subst hs0; exact n3.2
 simp (disch := omega) only [hRlen, go_sem]
 have Mb : ∀ a s F, upd (upd s0 b (srcC ex code a s)) b3 F b = some (srcC ex code a s) := fun a s F => by rw [upd_ne _ _ e3', upd_same]
 have M3 : ∀ a s F, upd (upd s0 b (srcC ex code a s)) b3 F b3 = some F := fun a s F => upd_same _ _ _
 have M2 : ∀ a s F, upd (upd s0 b (srcC ex code a s)) b3 F b2 = some Z6 := fun a s F => by rw [upd_ne _ _ e23, upd_ne _ _ e2]; exact g2
 have Mu : ∀ a s a' s' F, upd (upd (upd s0 b (srcC ex code a s)) b3 F) b (srcC ex code a' s') = upd (upd s0 b (srcC ex code a' s')) b3 F := fun a s a' s' F => by rw [upd_comm _ e3, upd_upd]
 refine W_loopC (α := Nat × List Link × Int × Int × V × St) (fun p => p.1 ≤ 7 ∧ p.2.1.length ≤ 6 ∧ lksB ((v : Int) + 1) p.2.1 = true ∧ (0 ≤ p.2.2.1 ∧ p.2.2.1 ≤ 3 + 9 * p.1) ∧ (0 ≤ p.2.2.2.1 ∧ p.2.2.2.1 < 2147483648) ∧ OwnL (upd (upd s0 b (srcC ex code p.2.2.1 p.2.2.2.1)) b3 [R, p.2.2.2.2.1, .isl true 0 [], .isl true 0 [], .isl true 0 [], .isl true 0 []]) 3 (linksV p.2.1) p.2.2.2.2.1 p.2.2.2.2.2)
  (fun p => [(0, .ptr b 0), (2, .ptr b2 0), (3, .ptr b3 0), (4, .int .i64 ((v : Int) + 1)), (5, .int .i64 (p.1 : Nat))]) (fun p => p.2.2.2.2.2) (fun p => 7 - p.1) (0, [], a1, s1, .isl true 0 [], _) ⟨by simp, by simp, rfl, by simp only; omega, ⟨j6, j7⟩, OwnL.nil _ _⟩ (by simp (disch := omega) only [subT, Int.natCast_add, Int.cast_ofNat_Int, go_sem] <;> (repeat' apply And.intro) <;> first | rfl | (congr 1; omega) | assumption) rfl ?_
 clear hb hbz j1 j2 j3 j4 j5 j6 j7 hs
 rintro ⟨i, ls, a, s, q, σ1⟩ ⟨hi, hll, hlk, ha, hs, ho⟩ ih
 dsimp only at hi hll hlk ha hs ho
 have gb := ho.get (Mb _ _ _)
 have g3 := ho.get (M3 _ _ _)
 have gq1 := ho.one
 by_cases c1 : i < 7 ∧ v ≥ 1
 ·have d1 : decide ((i : Int) < 7) = true := decide_eq_true (by omega)
  have d2 : decide ((v : Int) + 1 > 1) = true := decide_eq_true (by omega)
  simp (disch := omega) only [d1, d2, go_sem]
  refine SRun.callQ (next_ok gb (by omega) hs) ⟨[], rfl, rfl⟩ rfl ?_
  rintro r σ2 ⟨x, a2, s2, x1, _, x3, x4, x5, x6, x7, rfl, rfl⟩
  have hx := x3 (by omega)
  simp (disch := omega) only [go_sem]
  refine SRun.callQ (next_ok (upd_same _ _ _) (by omega) ⟨x6, x7⟩) ⟨[], rfl, rfl⟩ rfl ?_
  rintro r σ2 ⟨y, a3, s3, y1, _, y3, y4, y5, y6, y7, rfl, rfl⟩
  have hy := y3 (by omega)
  rw [upd_upd]
  have ho2 := ho.upd (c' := srcC ex code a3 s3) (Mb _ _ _)
  rw [Mu] at ho2
  have gb2 := ho2.get (Mb _ _ _)
  have g32 := ho2.get (M3 _ _ _)
  have hg32 : upd σ1 b (srcC ex code a3 s3) b3 = some [R, q, .isl true 0 [], .isl true 0 [], .isl true 0 [], .isl true 0 []] := g32
  generalize upd σ1 b (srcC ex code a3 s3) = σ2 at *
  have hno : ∀ T', subT [(0, V.ptr b 0), (2, V.ptr b2 0), (3, V.ptr b3 0), (4, V.int .i64 ((v : Int) + 1)), (5, V.int .i64 ((i : Int) + 1))] T' → _ := fun T' hT' => ih (i + 1, ls, a3, s3, q, σ2) T' _ ⟨by simp only; omega, hll, hlk, by simp only; omega, ⟨y6, y7⟩, ho2⟩ (by simp only; omega) hT' rfl
  simp (disch := omega) only [go_sem]
  by_cases c2 : x = y
  ·have d3 : (decide ¬ x = y) = false := by simp [c2]
   simp (disch := omega) only [d3, go_sem]
   exact hno _ (by simp (disch := omega) only [subT, Int.natCast_add, Int.cast_ofNat_Int, go_sem] <;> (repeat' apply And.intro) <;> first | rfl | (congr 1; omega) | assumption)
  have d3 : (decide ¬ x = y) = true := by simp [c2]
  simp (disch := omega) only [d3, hg32, go_sem]
  refine SRun.callR (Ret.lendL (l06Link_ok (σ := emp) (ex := false) (ls := ls) (x := x) (y := y) (by omega)) (by exact ⟨ho2.frz (fun _ _ => rfl) (fun _ _ => rfl), .refl _, .refl _, trivial⟩) (Plain.int _ _)) ⟨[], rfl, rfl⟩ rfl ?_
  by_cases c3 : linkP ls x y < 0
  case' neg =>
   have d4 : decide (linkP ls x y < 0) = false := decide_eq_false c3
   simp (disch := omega) only [d4, go_sem]
   exact hno _ (by simp (disch := omega) only [subT, Int.natCast_add, Int.cast_ofNat_Int, go_sem] <;> (repeat' apply And.intro) <;> first | rfl | (congr 1; omega) | assumption)
  have d4 : decide (linkP ls x y < 0) = true := decide_eq_true c3
  simp (disch := omega) only [d4, hg32, stepW_len_own ho2, linksV_len, go_sem]
  by_cases c4 : ls.length < 6
  case' neg =>
   have d5 : decide ((ls.length : Int) < 6) = false := decide_eq_false (by omega)
   simp (disch := omega) only [d5, go_sem]
   exact hno _ (by simp (disch := omega) only [subT, Int.natCast_add, Int.cast_ofNat_Int, go_sem] <;> (repeat' apply And.intro) <;> first | rfl | (congr 1; omega) | assumption)
  have d5 : decide ((ls.length : Int) < 6) = true := decide_eq_true (by omega)
  clear hno
  simp (disch := omega) only [d5, go_sem]
  rw [W_draw]
  have g3d : del σ2 b b3 = some [R, q, .isl true 0 [], .isl true 0 [], .isl true 0 [], .isl true 0 []] := by rw [del_ne _ e3]; exact hg32
  refine DRun.start (DRun.mix1 gb2 rfl ?_)
  simp (disch := omega) only [g3d, go_sem]
  refine DS.callQ (next_ok (upd_same emp b (srcC ex code a3 s3)) (by omega) ⟨y6, y7⟩) ⟨[], rfl, rfl⟩ rfl ?_
  rintro r sx ⟨w, a4, s4, w1, _, w3, w4, w5, w6, w7, rfl, rfl⟩ _
  have hw := w3 (by omega)
  rw [upd_upd]
  simp (disch := omega) only [go_sem]
  refine ⟨_, rfl, ?_⟩
  have ho3 := ho2.upd (c' := srcC ex code a4 s4) (Mb _ _ _)
  rw [Mu] at ho3
  refine DRun.appL ho3 rfl (link1_ok ⟨x, y, 1 + w⟩) (by rw [linksV_len]; simp only [List.length_singleton]; omega) ?_
  intro q' σ6 ho4
  have hap : linksV ls ++ [V.agg [.int .i64 x, .int .i64 y, .int .i64 (1 + w)]] = linksV (ls ++ [⟨x, y, 1 + w⟩]) := links_app ls ⟨x, y, 1 + w⟩
  rw [hap] at ho4
  have g34 := ho4.get (M3 _ _ _)
  simp (disch := omega) only [g34, ho4.one, ho4.cells, go_sem]
  have ho5 := ho4.upd (c' := [R, q', .isl true 0 [], .isl true 0 [], .isl true 0 [], .isl true 0 []]) (M3 _ _ _)
  rw [upd_upd] at ho5
  exact ih (i + 1, ls ++ [⟨x, y, 1 + w⟩], a4, s4, q', upd σ6 b3 [R, q', .isl true 0 [], .isl true 0 [], .isl true 0 [], .isl true 0 []]) _ _ ⟨by simp only; omega, by simp only [List.length_append, List.length_singleton]; omega, lksB_snoc hlk (by simp [routerB]; omega) (by simp [routerB]; omega) c2 (by simp [inB]; omega) c3, by simp only; omega, ⟨w6, w7⟩, ho5⟩ (by simp only; omega) (by simp (disch := omega) only [subT, Int.natCast_add, Int.cast_ofNat_Int, go_sem] <;> (repeat' apply And.intro) <;> first | rfl | (congr 1; omega) | assumption) rfl
 ·clear ih
  have hin := ownL_frzIn (cs' := [R, .isl false 3 (linksV ls), .isl true 1 (ints []), .isl true 1 (ints []), .isl true 5 [], .isl true 4 []]) ho (by simp only [List.mem_cons, List.not_mem_nil, or_false, forall_eq_or_imp, forall_eq]; exact ⟨hR1, rfl, rfl, rfl, rfl, rfl⟩) (fun hf => by exact ⟨.refl _, hf, .isl0 _ _ _ _ (fun _ => rfl), .isl0 _ _ _ _ (fun _ => rfl), .isl0 _ _ _ _ (fun _ => rfl), .isl0 _ _ _ _ (fun _ => rfl), trivial⟩)
  by_cases c5 : i < 7
  case' pos =>
   have d1 : decide ((i : Int) < 7) = true := decide_eq_true (by omega)
   have d2 : decide ((v : Int) + 1 > 1) = false := decide_eq_false (by omega)
   simp (disch := omega) only [d1, d2, go_sem]
   clear d1 d2 c1 c5
  case' neg =>
   have d1 : decide ((i : Int) < 7) = false := decide_eq_false (by omega)
   simp (disch := omega) only [d1, go_sem]
   clear d1 c1 c5
  all_goals
   rw [W_draw]
   refine SRun.freezeIn (T' := [(0, V.ptr b 0), (2, V.ptr b2 0), (3, V.ptr b3 0), (4, V.int .i64 ((v : Int) + 1))]) hin (frzT_of_sub (by simp (disch := omega) only [subT, Int.natCast_add, Int.cast_ofNat_Int, go_sem] <;> (repeat' apply And.intro) <;> first | rfl | (congr 1; omega) | assumption)) ?_
   clear hin ho g3 gb gq1 σ1
   have g3d : ∀ a s F, del (upd (upd s0 b (srcC ex code a s)) b3 F) b b3 = some F := fun a s F => by rw [del_ne _ e3]; exact upd_same _ _ _
   generalize hLV : V.isl false 3 (linksV ls) = LV
   have hL1 : LV.one = true := by subst hLV; rfl
   refine DRun.start (DRun.mix1 (Mb _ _ _) rfl ?_)
   simp (disch := omega) only [g3d, go_sem]
   refine DS.callQ (next_ok (upd_same emp b (srcC ex code a s)) (by omega) hs) ⟨[], rfl, rfl⟩ rfl ?_
   rintro r sx ⟨x, a4, s4, w1, w2, w3, w4, w5, w6, w7, rfl, rfl⟩ _
   have hx : 0 ≤ x ∧ x < v + 1 := ⟨w1, w3 (by omega)⟩
   rw [upd_upd]
   simp (disch := omega) only [go_sem]
   refine ⟨_, rfl, ?_⟩
   rw [Mu]
   refine DRun.callQ (l06Insert_ok (ex := true) (xs := []) (x := x) (by simp)) ⟨[], rfl, rfl⟩ ?_
   rintro r sx ⟨rfl, hsx⟩
   obtain rfl := hsx.symm
   have hio : risingB ((v : Int) + 1) (insP [] x) = true := ins_rising (xs := []) rfl hx
   have hil := ins_len [] x
   generalize insP [] x = os at *
   have hosl : os.length ≤ 1 := by simpa using hil
   simp (disch := omega) only [go_sem]
   refine DRun.mix1 (M3 _ _ _) rfl ?_
   simp (disch := omega) only [go_sem]
   refine DS.wrQ (WrF.store rfl (upd_same emp b3 _) rfl (by simp [ev, look, V.cells, V.one]) (by simp)) rfl ?_
   rintro _ sx ⟨_, rfl⟩ _
   rw [upd_upd]
   simp (disch := omega) only [V.cells, go_sem]
   refine ⟨_, rfl, ?_⟩
   clear g3d
   refine SRun.callQ (next_ok (Mb _ _ _) (by omega) ⟨w6, w7⟩) ⟨[], rfl, rfl⟩ rfl ?_
   rintro r sx ⟨y, a5, s5, y1, y2, y3, y4, y5, y6, y7, rfl, rfl⟩
   have hy := y3 (by omega)
   obtain ⟨y, rfl⟩ : ∃ v' : Nat, y = v' := ⟨y.toNat, by omega⟩
   rw [Mu]
   have ha5 : 0 ≤ a5 ∧ a5 ≤ 80 := by omega
   simp (disch := omega) only [go_sem]
   refine W_loopC (α := Nat × List Int × Bool × Int × Int) (fun p => p.1 ≤ y ∧ p.2.1.length + p.1 ≤ 2 ∧ risingB ((v : Int) + 1) p.2.1 = true ∧ (0 ≤ p.2.2.2.1 ∧ p.2.2.2.1 ≤ 80 + 3 * ((y : Int) - p.1)) ∧ (0 ≤ p.2.2.2.2 ∧ p.2.2.2.2 < 2147483648))
    (fun p => [(0, .ptr b 0), (2, .ptr b2 0), (3, .ptr b3 0), (4, .int .i64 ((v : Int) + 1)), (8, .int .i64 (p.1 : Nat))]) (fun p => upd (upd s0 b (srcC ex code p.2.2.2.1 p.2.2.2.2)) b3 [R, LV, .isl false 1 (ints os), .isl p.2.2.1 1 (ints p.2.1), .isl true 5 [], .isl true 4 []]) (fun p => p.1) (y, [], true, a5, s5) ⟨by simp, by simp only [List.length_nil]; omega, rfl, by simp only; omega, ⟨y6, y7⟩⟩ (by simp (disch := omega) only [subT, Int.natCast_add, Int.cast_ofNat_Int, go_sem] <;> (repeat' apply And.intro) <;> first | rfl | (congr 1; omega) | assumption) rfl ?_
   clear y6 y7 y1 ha5 y2 y3 y4 y5
   rintro ⟨j, xs, fx, a, s⟩ ⟨hj, hxl, hxr, ha, hs⟩ ih
   dsimp only at hj hxl hxr ha hs
   simp (disch := omega) only [go_sem]
   first | refine iteW_dec (fun c6 => ?_) (fun c6 => ?_) | refine iteW_of (fun c6 => ?_) (fun c6 => ?_)
   ·simp (disch := omega) only [go_sem]
    rw [W_draw]
    have g3d : ∀ a s F, del (upd (upd s0 b (srcC ex code a s)) b3 F) b b3 = some F := fun a s F => by rw [del_ne _ e3]; exact upd_same _ _ _
    refine DRun.start (DRun.mix1 (Mb _ _ _) rfl ?_)
    simp (disch := omega) only [g3d, go_sem]
    refine DS.callQ (next_ok (upd_same emp b (srcC ex code a s)) (by omega) hs) ⟨[], rfl, rfl⟩ rfl ?_
    rintro r sx ⟨x, a4, s4, w1, w2, w3, w4, w5, w6, w7, rfl, rfl⟩ _
    have hx : 0 ≤ x ∧ x < v + 1 := ⟨w1, w3 (by omega)⟩
    rw [upd_upd]
    simp (disch := omega) only [go_sem]
    refine ⟨_, rfl, ?_⟩
    rw [Mu]
    refine DRun.callQ (l06Insert_ok (ex := fx) (xs := xs) (x := x) (by omega)) ⟨[], rfl, rfl⟩ ?_
    rintro r sx ⟨rfl, hsx⟩
    obtain rfl := hsx.symm
    have hio2 := ins_rising hxr hx
    have hil2 := ins_len xs x
    simp (disch := omega) only [go_sem]
    refine DRun.mix1 (M3 _ _ _) rfl ?_
    simp (disch := omega) only [go_sem]
    refine DS.wrQ (WrF.store rfl (upd_same emp b3 _) rfl (by simp [ev, look, V.cells, V.one]) (by simp)) rfl ?_
    rintro _ sx ⟨_, rfl⟩ _
    rw [upd_upd]
    simp (disch := omega) only [V.cells, go_sem]
    refine ⟨_, rfl, ?_⟩
    obtain ⟨j, rfl⟩ : ∃ j', j = j' + 1 := ⟨j - 1, by omega⟩
    refine ih (j, insP xs x, false, a4, s4) _ _ ⟨by simp only; omega, by simp only; omega, hio2, by simp only; omega, ⟨w6, w7⟩⟩ (by simp only; omega) (by simp (disch := omega) only [subT, Int.natCast_add, Int.cast_ofNat_Int, go_sem] <;> (repeat' apply And.intro) <;> first | rfl | (congr 1; omega) | assumption) rfl
   ·clear ih
    have hj0 : j = 0 := by omega
    subst hj0
    subst hLV
    generalize hOV : V.isl false 1 (ints os) = OV
    have hO1 : OV.one = true := by subst hOV; rfl
    generalize hXV : V.isl fx 1 (ints xs) = XV
    have hX1 : XV.one = true := by subst hXV; rfl
    have ha2 : 0 ≤ a ∧ a ≤ 90 := by omega
    simp (disch := omega) only [go_sem]
    refine SRun.callQ (next_ok (Mb _ _ _) (by omega) hs) ⟨[], rfl, rfl⟩ rfl ?_
    rintro r sx ⟨y2, a5, s5, z1, z2, z3, z4, z5, z6, z7, rfl, rfl⟩
    have hy2 := z3 (by omega)
    obtain ⟨y2, rfl⟩ : ∃ v' : Nat, y2 = v' := ⟨y2.toNat, by omega⟩
    rw [Mu]
    have ha5 : 0 ≤ a5 ∧ a5 ≤ 93 := by omega
    simp (disch := omega) only [go_sem]
    refine W_loopC (α := Nat × List Imp × Int × Int × V × St) (fun p => p.1 ≤ y2 ∧ p.2.1.length + p.1 ≤ y2 ∧ (∀ x ∈ p.2.1, impOn ls x = true) ∧ (0 ≤ p.2.2.1 ∧ p.2.2.1 ≤ 93 + 15 * ((y2 : Int) - p.1)) ∧ (0 ≤ p.2.2.2.1 ∧ p.2.2.2.1 < 2147483648) ∧ OwnL (upd (upd s0 b (srcC ex code p.2.2.1 p.2.2.2.1)) b3 [R, .isl false 3 (linksV ls), OV, XV, p.2.2.2.2.1, .isl true 4 []]) 5 (impsV p.2.1) p.2.2.2.2.1 p.2.2.2.2.2)
     (fun p => [(0, .ptr b 0), (2, .ptr b2 0), (3, .ptr b3 0), (4, .int .i64 ((v : Int) + 1)), (9, .int .i64 (p.1 : Nat))]) (fun p => p.2.2.2.2.2) (fun p => p.1) (y2, [], a5, s5, .isl true 5 [], _) ⟨by simp, by simp, by simp, by simp only; omega, ⟨z6, z7⟩, OwnL.nil _ _⟩ (by simp (disch := omega) only [subT, Int.natCast_add, Int.cast_ofNat_Int, go_sem] <;> (repeat' apply And.intro) <;> first | rfl | (congr 1; omega) | assumption) rfl ?_
    clear z1 z2 z3 z4 z5 z6 z7 ha5
    rintro ⟨j, is, a, s, q, σ1⟩ ⟨hj, hil, hall, ha, hs, ho⟩ ih
    dsimp only at hj hil hall ha hs ho
    have gb := ho.get (Mb _ _ _)
    have g3 := ho.get (M3 _ _ _)
    have gq1 := ho.one
    simp (disch := omega) only [go_sem]
    by_cases c7 : j > 0 ∧ ls.length > 0
    ·have d1 : decide ((j : Int) > 0) = true := decide_eq_true (by omega)
     have d2 : decide ((ls.length : Int) > 0) = true := decide_eq_true (by omega)
     simp (disch := omega) only [d1, d2, g3, linksV_len, go_sem]
     rw [W_draw]
     have g3d : del σ1 b b3 = some [R, .isl false 3 (linksV ls), OV, XV, q, .isl true 4 []] := by rw [del_ne _ e3]; exact g3
     refine DRun.start (DRun.mixR1 gb (fun T s' => ∃ x a4 s4 b10, 0 ≤ x ∧ x < (ls.length : Int) ∧ a ≤ a4 ∧ a4 ≤ a + 3 ∧ (0 ≤ s4 ∧ s4 < 2147483648) ∧ b10 ≠ b ∧ σ1 b10 = none ∧ s' = upd (upd emp b (srcC ex code a4 s4)) b10 [.int .i64 0, .int .i64 0, .int .i64 0] ∧ look T 0 = .ptr b 0 ∧ look T 2 = .ptr b2 0 ∧ look T 3 = .ptr b3 0 ∧ look T 4 = .int .i64 ((v : Int) + 1) ∧ look T 9 = .int .i64 (j : Nat) ∧ look T 10 = .ptr b10 0 ∧ look T 112 = .agg (linkC (ls.getD x.toNat default))) rfl ?_ ?_)
     ·have hlt : ∀ l : Link, (linkC l).take 3 = linkC l := fun _ => rfl
      have hlt2 : ∀ l : Link, (linkC l).length = 3 := fun _ => rfl
      have hfree : ∀ {b10 : Nat} {z y : List V}, disj (upd (upd emp b z) b10 y) (del σ1 b) → (upd emp b z) b10 = none → b10 ≠ b ∧ σ1 b10 = none := fun {b10 z y} hd hn => by
       have e := (upd_none.1 hn).1
       refine ⟨e, ?_⟩
       have := (hd b10).resolve_left (by rw [upd_same]; simp)
       rwa [del_ne _ e] at this
      simp (disch := omega) only [g3d, linksV_len, go_sem]
      refine DS.wr2 (WrF.call (next_ok (upd_same emp b (srcC ex code a s)) (by omega) hs) ⟨[], rfl, rfl⟩) rfl ?_ ?_
      ·rintro r sx ⟨x, a4, s4, w1, w2, w3, w4, w5, w6, w7, rfl, rfl⟩ hd
       have hx := w3 (by omega)
       rw [upd_upd]
       simp (disch := omega) only [hlt, hlt2, go_sem]
       refine DS.wrQ WrF.alloc rfl ?_
       rintro _ s9 ⟨b10, hb10, rfl, rfl⟩ hd9
       obtain ⟨f1, f2⟩ := hfree hd9 hb10
       refine ⟨x, a4, s4, b10, w1, hx, w4, w5, ⟨w6, w7⟩, f1, f2, rfl, ?_⟩
       (repeat' apply And.intro) <;> rfl
      ·refine DS.wrQ WrF.alloc rfl ?_
       rintro _ s9 ⟨b10, hb10, rfl, rfl⟩ hd9
       obtain ⟨f1, f2⟩ := hfree hd9 hb10
       simp (disch := omega) only [go_sem]
       refine DS.wrQ (WrF.call (next_ok (by rw [upd_ne _ _ f1.symm, upd_same]) (by omega) hs) ⟨[], rfl, rfl⟩) rfl ?_
       rintro r sx ⟨x, a4, s4, w1, w2, w3, w4, w5, w6, w7, rfl, rfl⟩ hd
       have hx := w3 (by omega)
       rw [upd_comm _ f1, upd_upd]
       simp (disch := omega) only [hlt, hlt2, go_sem]
       refine ⟨x, a4, s4, b10, w1, hx, w4, w5, ⟨w6, w7⟩, f1, f2, rfl, ?_⟩
       (repeat' apply And.intro) <;> rfl
     rintro T s' ⟨x, a4, s4, b10, x0, x1, a41, a42, hs4, f1, f2, rfl, k0, k2, k3, k4, k9, k10, k112⟩
     rw [cup_del2 f1]
     have hlm := getD_mem (xs := ls) default (by omega : x.toNat < ls.length)
     generalize ls.getD x.toNat default = lk at *
     have hlc : linkC lk = [.int .i64 lk.a, .int .i64 lk.b, .int .i64 lk.cost] := rfl
     have hM10 : upd (upd s0 b (srcC ex code a s)) b3 [R, .isl false 3 (linksV ls), OV, XV, q, .isl true 4 []] b10 = none := by
      cases e : upd (upd s0 b (srcC ex code a s)) b3 [R, .isl false 3 (linksV ls), OV, XV, q, .isl true 4 []] b10 with
      | none => rfl
      | some c => rw [ho.get e] at f2; cases f2
     have f3 : b3 ≠ b10 := fun e => by subst e; rw [g3] at f2; cases f2
     simp (disch := omega) only [k10, k112, hlc, k0, k2, k3, k4, k9, go_sem]
     rw [W_draw]
     have ho1 := ho.upd (c' := srcC ex code a4 s4) (Mb _ _ _)
     rw [Mu] at ho1
     have hf2 : upd σ1 b (srcC ex code a4 s4) b10 = none := by rw [upd_ne _ _ f1]; exact f2
     have ho2 := ho1.ext (z := linkC lk) hf2
     rw [hlc] at ho2
     generalize hσ2 : upd (upd σ1 b (srcC ex code a4 s4)) b10 [V.int .i64 lk.a, .int .i64 lk.b, .int .i64 lk.cost] = σ2 at *
     have q10 : σ2 b10 = some [V.int .i64 lk.a, .int .i64 lk.b, .int .i64 lk.cost] := by subst hσ2; exact upd_same _ _ _
     have qb : σ2 b = some (srcC ex code a4 s4) := by subst hσ2; rw [upd_ne _ _ f1.symm, upd_same]
     have q3 : σ2 b3 = some [R, .isl false 3 (linksV ls), OV, XV, q, .isl true 4 []] := by subst hσ2; rw [upd_ne _ _ f3, upd_ne _ _ e3]; exact g3
     have q10d : del σ2 b b10 = some [V.int .i64 lk.a, .int .i64 lk.b, .int .i64 lk.cost] := by rw [del_ne _ f1]; exact q10
     refine DRun.start (DRun.mixR1 qb (fun T s' => ∃ w d a5 s5 b11, (0 ≤ w ∧ w < 3) ∧ (0 ≤ d ∧ d < 4) ∧ a4 ≤ a5 ∧ a5 ≤ a4 + 6 ∧ (0 ≤ s5 ∧ s5 < 2147483648) ∧ b11 ≠ b ∧ σ2 b11 = none ∧ s' = upd (upd emp b (srcC ex code a5 s5)) b11 [.int .i64 0, .int .i64 0, .int .i64 0, .int .i64 0, .int .i64 0] ∧ look T 0 = .ptr b 0 ∧ look T 2 = .ptr b2 0 ∧ look T 3 = .ptr b3 0 ∧ look T 4 = .int .i64 ((v : Int) + 1) ∧ look T 9 = .int .i64 (j : Nat) ∧ look T 10 = .ptr b10 0 ∧ look T 11 = .ptr b11 0 ∧ look T 122 = .agg [.int .i64 lk.a, .int .i64 lk.b, .int .i64 w, .int .i64 (1 + d), .int .i64 0]) rfl ?_ ?_)
     ·have hfree : ∀ {b11 : Nat} {z y : List V}, disj (upd (upd emp b z) b11 y) (del σ2 b) → (upd emp b z) b11 = none → b11 ≠ b ∧ σ2 b11 = none := fun {b11 z y} hd hn => by
       have e := (upd_none.1 hn).1
       refine ⟨e, ?_⟩
       have := (hd b11).resolve_left (by rw [upd_same]; simp)
       rwa [del_ne _ e] at this
      simp (disch := omega) only [q10d, k0, k2, k3, k4, k9, k10, go_sem]
      refine DS.wr2 (WrF.call (next_ok (upd_same emp b (srcC ex code a4 s4)) (by omega) hs4) ⟨[], rfl, rfl⟩) rfl ?_ ?_
      ·rintro r sx ⟨w, a5, s5, w1, w2, w3, w4, w5, w6, w7, rfl, rfl⟩ hd
       have hw := w3 (by omega)
       rw [upd_upd]
       simp (disch := omega) only [go_sem]
       refine DS.wr2 (WrF.call (next_ok (upd_same emp b (srcC ex code a5 s5)) (by omega) ⟨w6, w7⟩) ⟨[], rfl, rfl⟩) rfl ?_ ?_
       ·rintro r sx ⟨d, a6, s6, z1, z2, z3, z4, z5, z6, z7, rfl, rfl⟩ hd
        have hz := z3 (by omega)
        rw [upd_upd]
        simp (disch := omega) only [go_sem]
        refine DS.wrQ WrF.alloc rfl ?_
        rintro _ s9 ⟨b11, hb11, rfl, rfl⟩ hd9
        obtain ⟨h1, h2⟩ := hfree hd9 hb11
        refine ⟨w, d, a6, s6, b11, ⟨w1, hw⟩, ⟨z1, hz⟩, by omega, by omega, ⟨z6, z7⟩, h1, h2, rfl, ?_⟩
        (repeat' apply And.intro) <;> first | rfl | assumption
       ·refine DS.wrQ WrF.alloc rfl ?_
        rintro _ s9 ⟨b11, hb11, rfl, rfl⟩ hd9
        obtain ⟨h1, h2⟩ := hfree hd9 hb11
        simp (disch := omega) only [go_sem]
        refine DS.wrQ (WrF.call (next_ok (by rw [upd_ne _ _ h1.symm, upd_same]) (by omega) ⟨w6, w7⟩) ⟨[], rfl, rfl⟩) rfl ?_
        rintro r sx ⟨d, a6, s6, z1, z2, z3, z4, z5, z6, z7, rfl, rfl⟩ hd
        have hz := z3 (by omega)
        rw [upd_comm _ h1, upd_upd]
        simp (disch := omega) only [go_sem]
        refine ⟨w, d, a6, s6, b11, ⟨w1, hw⟩, ⟨z1, hz⟩, by omega, by omega, ⟨z6, z7⟩, h1, h2, rfl, ?_⟩
        (repeat' apply And.intro) <;> first | rfl | assumption
      ·refine DS.wrQ WrF.alloc rfl ?_
       rintro _ s9 ⟨b11, hb11, rfl, rfl⟩ hd9
       obtain ⟨h1, h2⟩ := hfree hd9 hb11
       simp (disch := omega) only [go_sem]
       refine DS.wrQ (WrF.call (next_ok (by rw [upd_ne _ _ h1.symm, upd_same]) (by omega) hs4) ⟨[], rfl, rfl⟩) rfl ?_
       rintro r sx ⟨w, a5, s5, w1, w2, w3, w4, w5, w6, w7, rfl, rfl⟩ hd
       have hw := w3 (by omega)
       rw [upd_comm _ h1, upd_upd]
       simp (disch := omega) only [go_sem]
       refine DS.wrQ (WrF.call (next_ok (by rw [upd_ne _ _ h1.symm, upd_same]) (by omega) ⟨w6, w7⟩) ⟨[], rfl, rfl⟩) rfl ?_
       rintro r sx ⟨d, a6, s6, z1, z2, z3, z4, z5, z6, z7, rfl, rfl⟩ hd
       have hz := z3 (by omega)
       rw [upd_comm _ h1, upd_upd]
       simp (disch := omega) only [go_sem]
       refine ⟨w, d, a6, s6, b11, ⟨w1, hw⟩, ⟨z1, hz⟩, by omega, by omega, ⟨z6, z7⟩, h1, h2, rfl, ?_⟩
       (repeat' apply And.intro) <;> first | rfl | assumption
     clear k0 k2 k3 k4 k9 k10 k112 T
     rintro T s' ⟨w, d, a5, s5, b11, hw, hd, a51, a52, hs5, h1, h2, rfl, k0, k2, k3, k4, k9, k10, k11, k122⟩
     rw [cup_del2 h1]
     have h3 : b3 ≠ b11 := fun e => by subst e; rw [q3] at h2; cases h2
     have h10 : b10 ≠ b11 := fun e => by subst e; rw [q10] at h2; cases h2
     have hM11 : upd (upd s0 b (srcC ex code a s)) b3 [R, .isl false 3 (linksV ls), OV, XV, q, .isl true 4 []] b11 = none := by
      cases e : upd (upd s0 b (srcC ex code a s)) b3 [R, .isl false 3 (linksV ls), OV, XV, q, .isl true 4 []] b11 with
      | none => rfl
      | some c =>
       have e2 := ho.get e
       have : σ2 b11 = some c := by
        subst hσ2; rw [upd_ne _ _ h10.symm, upd_ne _ _ h1]; exact e2
       rw [this] at h2; cases h2
     simp (disch := omega) only [k11, k122, go_sem]
     obtain ⟨B, hB⟩ : ∃ B : Int → Int → List V → List V → St, B = fun a s y z => upd (upd (upd (upd s0 b (srcC ex code a s)) b3 [R, .isl false 3 (linksV ls), OV, XV, q, .isl true 4 []]) b10 y) b11 z := ⟨_, rfl⟩
     have Bb : ∀ a s y z, B a s y z b = some (srcC ex code a s) := fun a s y z => by rw [hB]; simp only; rw [upd_ne _ _ h1.symm, upd_ne _ _ f1.symm]; exact Mb _ _ _
     have B3 : ∀ a s y z, B a s y z b3 = some [R, .isl false 3 (linksV ls), OV, XV, q, .isl true 4 []] := fun a s y z => by rw [hB]; simp only; rw [upd_ne _ _ h3, upd_ne _ _ f3]; exact M3 _ _ _
     have B10 : ∀ a s y z, B a s y z b10 = some y := fun a s y z => by rw [hB]; simp only; rw [upd_ne _ _ h10, upd_same]
     have B11 : ∀ a s y z, B a s y z b11 = some z := fun a s y z => by rw [hB]; exact upd_same _ _ _
     have Bu : ∀ a s a' s' y z, upd (B a s y z) b (srcC ex code a' s') = B a' s' y z := fun a s a' s' y z => by rw [hB]; simp only; rw [upd_comm _ h1, upd_comm _ f1, Mu]
     have Bu11 : ∀ a s y z z', upd (B a s y z) b11 z' = B a s y z' := fun a s y z z' => by rw [hB]; simp only; rw [upd_upd]
     have ho4 : OwnL (B a5 s5 [.int .i64 lk.a, .int .i64 lk.b, .int .i64 lk.cost] [.int .i64 lk.a, .int .i64 lk.b, .int .i64 w, .int .i64 (1 + d), .int .i64 0]) 5 (impsV is) q (upd (upd σ2 b (srcC ex code a5 s5)) b11 [.int .i64 lk.a, .int .i64 lk.b, .int .i64 w, .int .i64 (1 + d), .int .i64 0]) := by
      have h4 := ho2.upd (c' := srcC ex code a5 s5) (b := b) (by rw [upd_ne _ _ f1.symm]; exact Mb _ _ _)
      rw [upd_comm _ f1, Mu] at h4
      rw [hB]
      exact h4.ext (by rw [upd_ne _ _ h1]; exact h2)
     generalize upd (upd σ2 b (srcC ex code a5 s5)) b11 [V.int .i64 lk.a, .int .i64 lk.b, .int .i64 w, .int .i64 (1 + d), .int .i64 0] = σ3 at *
     simp (disch := omega) only [k0, go_sem]
     refine SRun.callQ (chance_ok (ho4.get (Bb _ _ _ _)) (by omega) hs5 (by decide)) ⟨[], rfl, rfl⟩ rfl ?_
     rintro r sx ⟨cv, a6, s6, u1, u2, u3, u4, rfl, rfl⟩
     have ho5 := ho4.upd (c' := srcC ex code a6 s6) (Bb _ _ _ _)
     rw [Bu] at ho5
     generalize upd σ3 b (srcC ex code a6 s6) = σ4 at *
     simp (disch := omega) only [go_sem]
     refine iteW_join (fun T s' => ∃ f t, ((f = lk.a ∧ t = lk.b) ∨ (f = lk.b ∧ t = lk.a)) ∧ OwnL (B a6 s6 [.int .i64 lk.a, .int .i64 lk.b, .int .i64 lk.cost] [.int .i64 f, .int .i64 t, .int .i64 w, .int .i64 (1 + d), .int .i64 0]) 5 (impsV is) q s' ∧ look T 0 = .ptr b 0 ∧ look T 2 = .ptr b2 0 ∧ look T 3 = .ptr b3 0 ∧ look T 4 = .int .i64 ((v : Int) + 1) ∧ look T 9 = .int .i64 (j : Nat) ∧ look T 11 = .ptr b11 0) (fun k' key => ?_) ?_
     ·cases cv with
      | false =>
       simp (disch := omega) only [go_sem]
       exact key _ _ ⟨lk.a, lk.b, .inl ⟨rfl, rfl⟩, ho5, k0, k2, k3, k4, k9, k11⟩
      | true =>
       have ho6 := ho5.upd (c' := [.int .i64 lk.b, .int .i64 lk.b, .int .i64 w, .int .i64 (1 + d), .int .i64 0]) (B11 _ _ _ _)
       rw [Bu11] at ho6
       have ho7 := ho6.upd (c' := [.int .i64 lk.b, .int .i64 lk.a, .int .i64 w, .int .i64 (1 + d), .int .i64 0]) (B11 _ _ _ _)
       rw [Bu11, upd_upd] at ho7
       simp (disch := omega) only [k10, k11, ho5.get (B10 _ _ _ _), ho5.get (B11 _ _ _ _), h10, go_sem]
       exact key _ _ ⟨lk.b, lk.a, .inr ⟨rfl, rfl⟩, ho7, k0, k2, k3, k4, k9, k11⟩
     clear ho5 ho4 k0 k2 k3 k4 k9 k10 k11 k122 T
     rintro T sx ⟨f, t, hft, ho5, k0, k2, k3, k4, k9, k11⟩
     simp (disch := omega) only [k11, ho5.get (B11 _ _ _ _), go_sem]
     refine iteW_join (fun T s' => ∃ N a7 s7, (N = 0 ∨ (d = 1 ∧ 0 ≤ N ∧ N ≤ 1000)) ∧ (a6 ≤ a7 ∧ a7 ≤ a6 + 3) ∧ (0 ≤ s7 ∧ s7 < 2147483648) ∧ OwnL (B a7 s7 [.int .i64 lk.a, .int .i64 lk.b, .int .i64 lk.cost] [.int .i64 f, .int .i64 t, .int .i64 w, .int .i64 (1 + d), .int .i64 N]) 5 (impsV is) q s' ∧ look T 0 = .ptr b 0 ∧ look T 2 = .ptr b2 0 ∧ look T 3 = .ptr b3 0 ∧ look T 4 = .int .i64 ((v : Int) + 1) ∧ look T 9 = .int .i64 (j : Nat) ∧ look T 11 = .ptr b11 0) (fun k' key => ?_) ?_
     ·by_cases c8 : 1 + d = 2
      ·have d3 : decide (1 + d = 2) = true := decide_eq_true c8
       simp (disch := omega) only [d3, k0, go_sem]
       refine SRun.callQ (next_ok (ho5.get (Bb _ _ _ _)) (by omega) ⟨u3, u4⟩) ⟨[], rfl, rfl⟩ rfl ?_
       rintro r sx ⟨N, a7, s7, z1, z2, z3, z4, z5, z6, z7, rfl, rfl⟩
       have hz := z3 (by omega)
       have ho6 := ho5.upd (c' := srcC ex code a7 s7) (Bb _ _ _ _)
       rw [Bu] at ho6
       have ho7 := ho6.upd (c' := [.int .i64 f, .int .i64 t, .int .i64 w, .int .i64 (1 + d), .int .i64 (50 * N)]) (B11 _ _ _ _)
       rw [Bu11] at ho7
       simp (disch := omega) only [k11, ho6.get (B11 _ _ _ _), go_sem]
       exact key _ _ ⟨50 * N, a7, s7, .inr ⟨by omega, by omega, by omega⟩, by omega, ⟨z6, z7⟩, ho7, k0, k2, k3, k4, k9, k11⟩
      ·have d3 : decide (1 + d = 2) = false := decide_eq_false c8
       simp (disch := omega) only [d3, go_sem]
       exact key _ _ ⟨0, a6, s6, .inl rfl, by omega, ⟨u3, u4⟩, ho5, k0, k2, k3, k4, k9, k11⟩
     clear ho5 k0 k2 k3 k4 k9 k11 T
     rintro T sx ⟨N, a7, s7, hN, ha7, hs7, ho5, k0, k2, k3, k4, k9, k11⟩
     simp (disch := omega) only [k3, k11, ho5.get (B3 _ _ _ _), ho5.get (B11 _ _ _ _), go_sem]
     refine SRun.appL ho5 rfl (imp1_ok ⟨f, t, w, 1 + d, N⟩) (by simp only [impsV_len, List.length_singleton]; omega) ?_
     intro q' σ6 ho6
     have hap : impsV is ++ [V.agg [.int .i64 f, .int .i64 t, .int .i64 w, .int .i64 (1 + d), .int .i64 N]] = impsV (is ++ [⟨f, t, w, 1 + d, N⟩]) := imps_app is ⟨f, t, w, 1 + d, N⟩
     rw [hap] at ho6
     simp (disch := omega) only [k3, k9, ho6.get (B3 _ _ _ _), ho6.one, ho6.cells, go_sem]
     have ho7 := ho6.upd (c' := [R, .isl false 3 (linksV ls), OV, XV, q', .isl true 4 []]) (B3 _ _ _ _)
     have hMa : ∀ bx, upd (upd s0 b (srcC ex code a s)) b3 [R, .isl false 3 (linksV ls), OV, XV, q, .isl true 4 []] bx = none → upd (upd s0 b (srcC ex code a7 s7)) b3 [R, .isl false 3 (linksV ls), OV, XV, q, .isl true 4 []] bx = none := fun bx h => by
      have e1 := (upd_none.1 h).1
      have e2 := (upd_none.1 (upd_none.1 h).2)
      rw [upd_ne _ _ e1, upd_ne _ _ e2.1]; exact e2.2
     have hbx := le_boxes (F' := [R, .isl false 3 (linksV ls), OV, XV, q', .isl true 4 []]) (y := [.int .i64 lk.a, .int .i64 lk.b, .int .i64 lk.cost]) (z := [.int .i64 f, .int .i64 t, .int .i64 w, .int .i64 (1 + d), .int .i64 N]) (hMa _ hM10) (hMa _ hM11) (M3 _ _ _)
     rw [upd_upd] at hbx
     rw [hB] at ho7
     obtain ⟨σ8, f8, ho8⟩ := ownL_less ho7 hbx
     refine W_freezeL (σ' := σ8) (T' := [(0, .ptr b 0), (2, .ptr b2 0), (3, .ptr b3 0), (4, .int .i64 ((v : Int) + 1)), (9, .int .i64 ((j : Int) - 1))]) f8 (frzT_of_sub (by simp (disch := omega) only [subT, Int.natCast_add, Int.cast_ofNat_Int, k0, k2, k3, k4, k9, go_sem] <;> (repeat' apply And.intro) <;> first | rfl | (congr 1; omega) | assumption)) ?_
     have hlk2 := linkP_mem hlm (joinB_self lk)
     have hlk3 := linkP_mem hlm (joinB_swap lk)
     obtain ⟨j, rfl⟩ : ∃ j', j = j' + 1 := ⟨j - 1, by omega⟩
     refine ih (j, is ++ [⟨f, t, w, 1 + d, N⟩], a7, s7, q', σ8) _ _ ⟨by simp only; omega, by simp only [List.length_append, List.length_singleton]; omega, fun x hx => ?_, by simp only; omega, hs7, ho8⟩ (by simp only; omega) (by simp (disch := omega) only [subT, Int.natCast_add, Int.cast_ofNat_Int, go_sem] <;> (repeat' apply And.intro) <;> first | rfl | (congr 1; omega) | assumption) rfl
     rcases List.mem_append.1 hx with hx | hx
     ·exact hall x hx
     ·rw [List.mem_singleton.1 hx]
      simp only [impOn, impB, inB, Bool.and_eq_true, decide_eq_true_eq]
      refine ⟨?_, ⟨⟨by omega, by omega⟩, ⟨by omega, by omega⟩⟩, ?_⟩
      ·rcases hft with ⟨rfl, rfl⟩ | ⟨rfl, rfl⟩
       ·exact hlk2
       ·exact hlk3
      ·split
       ·omega
       ·rename_i hne; rcases hN with h | h <;> omega
    ·clear ih
     have hin := ownL_frzIn (cs' := [R, .isl false 3 (linksV ls), OV, XV, .isl false 5 (impsV is), .isl true 4 []]) ho (by simp only [List.mem_cons, List.not_mem_nil, or_false, forall_eq_or_imp, forall_eq]; exact ⟨hR1, rfl, hO1, hX1, rfl, rfl⟩) (fun hf => by exact ⟨.refl _, .refl _, .refl _, .refl _, hf, .refl _, trivial⟩)
     have ha3 : 0 ≤ a ∧ a ≤ 160 := by omega
     by_cases c8 : j > 0
     case' pos =>
      have d1 : decide ((j : Int) > 0) = true := decide_eq_true (by omega)
      have d2 : decide ((ls.length : Int) > 0) = false := decide_eq_false (by omega)
      simp (disch := omega) only [d1, d2, g3, linksV_len, go_sem]
      clear d1 d2 c7 c8
     case' neg =>
      have d1 : decide ((j : Int) > 0) = false := decide_eq_false (by omega)
      simp (disch := omega) only [d1, go_sem]
      clear d1 c7 c8
     all_goals
      refine SRun.freezeIn (T' := [(0, V.ptr b 0), (2, V.ptr b2 0), (3, V.ptr b3 0), (4, V.int .i64 ((v : Int) + 1)), (144, V.ptr b 0)]) hin (frzT_of_sub (by simp (disch := omega) only [subT, Int.natCast_add, Int.cast_ofNat_Int, go_sem] <;> (repeat' apply And.intro) <;> first | rfl | (congr 1; omega) | assumption)) ?_
      refine SRun.callQ (next_ok (Mb _ _ _) (by omega) hs) ⟨[], rfl, rfl⟩ rfl ?_
      rintro r sx ⟨y3, a5, s5, z1, z2, z3, z4, z5, z6, z7, rfl, rfl⟩
      have hy3 := z3 (by omega)
      obtain ⟨y3, rfl⟩ : ∃ v' : Nat, y3 = v' := ⟨y3.toNat, by omega⟩
      rw [Mu]
      have ha5 : 0 ≤ a5 ∧ a5 ≤ 163 := by omega
      simp (disch := omega) only [go_sem]
      refine W_loopC (α := Nat × List Fil × Int × Int × V × St) (fun p => p.1 ≤ y3 ∧ p.2.1.length + p.1 ≤ y3 ∧ (∀ x ∈ p.2.1, filOn ls x = true) ∧ (0 ≤ p.2.2.1 ∧ p.2.2.1 ≤ 163 + 9 * ((y3 : Int) - p.1)) ∧ (0 ≤ p.2.2.2.1 ∧ p.2.2.2.1 < 2147483648) ∧ OwnL (upd (upd s0 b (srcC ex code p.2.2.1 p.2.2.2.1)) b3 [R, .isl false 3 (linksV ls), OV, XV, .isl false 5 (impsV is), p.2.2.2.2.1]) 4 (filsV p.2.1) p.2.2.2.2.1 p.2.2.2.2.2)
       (fun p => [(0, .ptr b 0), (2, .ptr b2 0), (3, .ptr b3 0), (4, .int .i64 ((v : Int) + 1)), (12, .int .i64 (p.1 : Nat))]) (fun p => p.2.2.2.2.2) (fun p => p.1) (y3, [], a5, s5, .isl true 4 [], _) ⟨by simp, by simp, by simp, by simp only; omega, ⟨z6, z7⟩, OwnL.nil _ _⟩ (by simp (disch := omega) only [subT, Int.natCast_add, Int.cast_ofNat_Int, go_sem] <;> (repeat' apply And.intro) <;> first | rfl | (congr 1; omega) | assumption) rfl ?_
      clear z1 z2 z3 z4 z5 z6 z7 ha5 hin ho gb g3 gq1
      generalize hIV : V.isl false 5 (impsV is) = IV
      have hI1 : IV.one = true := by subst hIV; rfl
      rintro ⟨j, fs, a, s, q, σ1⟩ ⟨hj, hfl, hfa, ha, hs, ho⟩ ih
      dsimp only at hj hfl hfa ha hs ho
      have gb := ho.get (Mb _ _ _)
      have g3 := ho.get (M3 _ _ _)
      have gq1 := ho.one
      simp (disch := omega) only [go_sem]
      by_cases c9 : j > 0 ∧ ls.length > 0
      ·have d1 : decide ((j : Int) > 0) = true := decide_eq_true (by omega)
       have d2 : decide ((ls.length : Int) > 0) = true := decide_eq_true (by omega)
       simp (disch := omega) only [d1, d2, g3, linksV_len, go_sem]
       rw [W_draw]
       have g3d : del σ1 b b3 = some [R, .isl false 3 (linksV ls), OV, XV, IV, q] := by rw [del_ne _ e3]; exact g3
       refine DRun.start (DRun.mixR1 gb (fun T s' => ∃ x a4 s4 b13, 0 ≤ x ∧ x < (ls.length : Int) ∧ a ≤ a4 ∧ a4 ≤ a + 3 ∧ (0 ≤ s4 ∧ s4 < 2147483648) ∧ b13 ≠ b ∧ σ1 b13 = none ∧ s' = upd (upd emp b (srcC ex code a4 s4)) b13 [.int .i64 0, .int .i64 0, .int .i64 0] ∧ look T 0 = .ptr b 0 ∧ look T 2 = .ptr b2 0 ∧ look T 3 = .ptr b3 0 ∧ look T 4 = .int .i64 ((v : Int) + 1) ∧ look T 12 = .int .i64 (j : Nat) ∧ look T 13 = .ptr b13 0 ∧ look T 164 = .agg (linkC (ls.getD x.toNat default))) rfl ?_ ?_)
       ·have hlt : ∀ l : Link, (linkC l).take 3 = linkC l := fun _ => rfl
        have hlt2 : ∀ l : Link, (linkC l).length = 3 := fun _ => rfl
        have hfree : ∀ {b10 : Nat} {z y : List V}, disj (upd (upd emp b z) b10 y) (del σ1 b) → (upd emp b z) b10 = none → b10 ≠ b ∧ σ1 b10 = none := fun {b10 z y} hd hn => by
         have e := (upd_none.1 hn).1
         refine ⟨e, ?_⟩
         have := (hd b10).resolve_left (by rw [upd_same]; simp)
         rwa [del_ne _ e] at this
        simp (disch := omega) only [g3d, linksV_len, go_sem]
        refine DS.wr2 (WrF.call (next_ok (upd_same emp b (srcC ex code a s)) (by omega) hs) ⟨[], rfl, rfl⟩) rfl ?_ ?_
        ·rintro r sx ⟨x, a4, s4, w1, w2, w3, w4, w5, w6, w7, rfl, rfl⟩ hd
         have hx := w3 (by omega)
         rw [upd_upd]
         simp (disch := omega) only [hlt, hlt2, go_sem]
         refine DS.wrQ WrF.alloc rfl ?_
         rintro _ s9 ⟨b10, hb10, rfl, rfl⟩ hd9
         obtain ⟨f1, f2⟩ := hfree hd9 hb10
         refine ⟨x, a4, s4, b10, w1, hx, w4, w5, ⟨w6, w7⟩, f1, f2, rfl, ?_⟩
         (repeat' apply And.intro) <;> rfl
        ·refine DS.wrQ WrF.alloc rfl ?_
         rintro _ s9 ⟨b10, hb10, rfl, rfl⟩ hd9
         obtain ⟨f1, f2⟩ := hfree hd9 hb10
         simp (disch := omega) only [go_sem]
         refine DS.wrQ (WrF.call (next_ok (by rw [upd_ne _ _ f1.symm, upd_same]) (by omega) hs) ⟨[], rfl, rfl⟩) rfl ?_
         rintro r sx ⟨x, a4, s4, w1, w2, w3, w4, w5, w6, w7, rfl, rfl⟩ hd
         have hx := w3 (by omega)
         rw [upd_comm _ f1, upd_upd]
         simp (disch := omega) only [hlt, hlt2, go_sem]
         refine ⟨x, a4, s4, b10, w1, hx, w4, w5, ⟨w6, w7⟩, f1, f2, rfl, ?_⟩
         (repeat' apply And.intro) <;> rfl
       rintro T s' ⟨x, a4, s4, b13, x0, x1, a41, a42, hs4, f1, f2, rfl, k0, k2, k3, k4, k12, k13, k164⟩
       rw [cup_del2 f1]
       have hlm := getD_mem (xs := ls) default (by omega : x.toNat < ls.length)
       generalize ls.getD x.toNat default = lk at *
       have hlc : linkC lk = [.int .i64 lk.a, .int .i64 lk.b, .int .i64 lk.cost] := rfl
       have hM13 : upd (upd s0 b (srcC ex code a s)) b3 [R, .isl false 3 (linksV ls), OV, XV, IV, q] b13 = none := by
        cases e : upd (upd s0 b (srcC ex code a s)) b3 [R, .isl false 3 (linksV ls), OV, XV, IV, q] b13 with
        | none => rfl
        | some c => rw [ho.get e] at f2; cases f2
       have f3 : b3 ≠ b13 := fun e => by subst e; rw [g3] at f2; cases f2
       obtain ⟨B, hB⟩ : ∃ B : Int → Int → List V → St, B = fun a s y => upd (upd (upd s0 b (srcC ex code a s)) b3 [R, .isl false 3 (linksV ls), OV, XV, IV, q]) b13 y := ⟨_, rfl⟩
       have Bb : ∀ a s y, B a s y b = some (srcC ex code a s) := fun a s y => by rw [hB]; simp only; rw [upd_ne _ _ f1.symm]; exact Mb _ _ _
       have B3 : ∀ a s y, B a s y b3 = some [R, .isl false 3 (linksV ls), OV, XV, IV, q] := fun a s y => by rw [hB]; simp only; rw [upd_ne _ _ f3]; exact M3 _ _ _
       have B13 : ∀ a s y, B a s y b13 = some y := fun a s y => by rw [hB]; exact upd_same _ _ _
       have Bu : ∀ a s a' s' y, upd (B a s y) b (srcC ex code a' s') = B a' s' y := fun a s a' s' y => by rw [hB]; simp only; rw [upd_comm _ f1, Mu]
       simp (disch := omega) only [k13, k164, hlc, k0, go_sem]
       have ho2 : OwnL (B a4 s4 [.int .i64 lk.a, .int .i64 lk.b, .int .i64 lk.cost]) 4 (filsV fs) q (upd (upd σ1 b (srcC ex code a4 s4)) b13 [.int .i64 lk.a, .int .i64 lk.b, .int .i64 lk.cost]) := by
        have h4 := ho.upd (c' := srcC ex code a4 s4) (Mb _ _ _)
        rw [Mu] at h4
        rw [hB]
        exact h4.ext (by rw [upd_ne _ _ f1]; exact f2)
       generalize upd (upd σ1 b (srcC ex code a4 s4)) b13 [V.int .i64 lk.a, .int .i64 lk.b, .int .i64 lk.cost] = σ2 at *
       refine SRun.callQ (next_ok (ho2.get (Bb _ _ _)) (by omega) hs4) ⟨[], rfl, rfl⟩ rfl ?_
       rintro r sx ⟨lo, a6, s6, u1, u2, u3, u4, u5, u6, u7, rfl, rfl⟩
       have hlo := u3 (by omega)
       have ho3 := ho2.upd (c' := srcC ex code a6 s6) (Bb _ _ _)
       rw [Bu] at ho3
       generalize upd σ2 b (srcC ex code a6 s6) = σ3 at *
       simp (disch := omega) only [go_sem]
       rw [W_draw]
       have g33 := ho3.get (B3 _ _ _)
       have g3d : del σ3 b b3 = some [R, .isl false 3 (linksV ls), OV, XV, IV, q] := by rw [del_ne _ e3]; exact g33
       have g13d : del σ3 b b13 = some [.int .i64 lk.a, .int .i64 lk.b, .int .i64 lk.cost] := by rw [del_ne _ f1]; exact ho3.get (B13 _ _ _)
       refine DRun.start (DRun.mix1 (ho3.get (Bb _ _ _)) rfl ?_)
       simp (disch := omega) only [g3d, g13d, k0, k3, k13, go_sem]
       refine DS.callQ (next_ok (upd_same emp b (srcC ex code a6 s6)) (by omega) ⟨u6, u7⟩) ⟨[], rfl, rfl⟩ rfl ?_
       rintro r sx ⟨w, a7, s7, w1, w2, w3, w4, w5, w6, w7, rfl, rfl⟩ _
       have hw := w3 (by omega)
       rw [upd_upd]
       simp (disch := omega) only [go_sem]
       refine ⟨_, rfl, ?_⟩
       have ho4 := ho3.upd (c' := srcC ex code a7 s7) (Bb _ _ _)
       rw [Bu] at ho4
       refine DRun.appL ho4 rfl (filn1_ok ⟨lk.a, lk.b, lo, lo + w⟩) (by rw [filsV_len]; simp only [List.length_singleton]; omega) ?_
       intro q' σ6 ho6
       have hap : filsV fs ++ [V.agg [.int .i64 lk.a, .int .i64 lk.b, .int .i64 lo, .int .i64 (lo + w)]] = filsV (fs ++ [⟨lk.a, lk.b, lo, lo + w⟩]) := filsn_app fs ⟨lk.a, lk.b, lo, lo + w⟩
       rw [hap] at ho6
       simp (disch := omega) only [k3, k12, ho6.get (B3 _ _ _), ho6.one, ho6.cells, go_sem]
       have ho7 := ho6.upd (c' := [R, .isl false 3 (linksV ls), OV, XV, IV, q']) (B3 _ _ _)
       have hMa : upd (upd s0 b (srcC ex code a7 s7)) b3 [R, .isl false 3 (linksV ls), OV, XV, IV, q] b13 = none := by
        have e1 := (upd_none.1 hM13).1
        have e2 := (upd_none.1 (upd_none.1 hM13).2)
        rw [upd_ne _ _ e1, upd_ne _ _ e2.1]; exact e2.2
       have hbx : ∀ d x, upd (upd s0 b (srcC ex code a7 s7)) b3 [R, .isl false 3 (linksV ls), OV, XV, IV, q'] d = some x → upd (B a7 s7 [.int .i64 lk.a, .int .i64 lk.b, .int .i64 lk.cost]) b3 [R, .isl false 3 (linksV ls), OV, XV, IV, q'] d = some x := by
        intro d x h
        by_cases e : d = b3
        ·subst e; rw [upd_same] at h ⊢; exact h
        ·rw [upd_ne _ _ e] at h ⊢
         have e13 : d ≠ b13 := fun e => by subst e; rw [upd_ne _ _ f3.symm] at hMa; rw [hMa] at h; cases h
         rw [hB]; simp only; rw [upd_ne _ _ e13, upd_ne _ _ e]; exact h
       obtain ⟨σ8, f8, ho8⟩ := ownL_less ho7 hbx
       refine W_freezeL (σ' := σ8) (T' := [(0, .ptr b 0), (2, .ptr b2 0), (3, .ptr b3 0), (4, .int .i64 ((v : Int) + 1)), (12, .int .i64 ((j : Int) - 1))]) f8 (frzT_of_sub (by simp (disch := omega) only [subT, Int.natCast_add, Int.cast_ofNat_Int, k0, k2, k3, k4, k12, go_sem] <;> (repeat' apply And.intro) <;> first | rfl | (congr 1; omega) | assumption)) ?_
       have hlk2 := linkP_mem hlm (joinB_self lk)
       obtain ⟨j, rfl⟩ : ∃ j', j = j' + 1 := ⟨j - 1, by omega⟩
       refine ih (j, fs ++ [⟨lk.a, lk.b, lo, lo + w⟩], a7, s7, q', σ8) _ _ ⟨by simp only; omega, by simp only [List.length_append, List.length_singleton]; omega, fun x hx => ?_, by simp only; omega, ⟨w6, w7⟩, ho8⟩ (by simp only; omega) (by simp (disch := omega) only [subT, Int.natCast_add, Int.cast_ofNat_Int, go_sem] <;> (repeat' apply And.intro) <;> first | rfl | (congr 1; omega) | assumption) rfl
       rcases List.mem_append.1 hx with hx | hx
       ·exact hfa x hx
       ·rw [List.mem_singleton.1 hx]
        simp only [filOn, inB, Bool.and_eq_true, decide_eq_true_eq]
        exact ⟨⟨hlk2, by omega, by omega⟩, by omega⟩
      ·clear ih
       have g2' := ho.get (M2 _ _ _)
       have hqc := ho.cells
       obtain ⟨n, hn⟩ : ∃ n : Net, n = ⟨names4 (v + 1), ls, os, xs, is, fs⟩ := ⟨_, rfl⟩
       have hcast : ((names4 (v + 1)).length : Int) = (v : Int) + 1 := by rw [hkl]; rfl
       have hNB : netB n = true := by
        subst hn
        have k1 := names4_ok (k := v + 1) (by omega)
        have k2 : (List.range ls.length).all (linkAt ((names4 (v + 1)).length : Int) ls) = true := by rw [hcast]; exact hlk
        have k3 : is.all (impOn ls) = true := List.all_eq_true.2 hall
        have k4 : fs.all (filOn ls) = true := List.all_eq_true.2 hfa
        have k5 : risingB ((names4 (v + 1)).length : Int) os = true := by rw [hcast]; exact hio
        have k6 : risingB ((names4 (v + 1)).length : Int) xs = true := by rw [hcast]; exact hxr
        unfold netB
        rw [k1, k2, k3, k4, k5, k6, decide_eq_true (by rw [hkl]; omega : 1 ≤ (names4 (v + 1)).length), decide_eq_true (by rw [hkl]; omega : (names4 (v + 1)).length ≤ 4), decide_eq_true hll, decide_eq_true (by omega : is.length ≤ 12), decide_eq_true (by omega : fs.length ≤ 6), decide_eq_true (by omega : xs.length ≤ 2)]
        rfl
       have hNL : NetLen n := by
        subst hn
        refine ⟨by rw [hkl]; omega, fun w hw => ?_, by simp only; omega, by simp only; omega, by simp only; omega, by simp only; omega, by simp only; omega⟩
        have := List.mem_of_mem_take hw
        simp only [List.mem_cons, List.not_mem_nil, or_false] at this
        rcases this with rfl | rfl | rfl | rfl <;> simp
       have hos : n.origins.length ≤ 4 := by subst hn; simp only; omega
       have fin : ∀ σ9, σ9 = upd σ1 b2 [R, .isl false 3 (linksV ls), OV, XV, IV, q] → Conv σ9 (.agg [R, .isl false 3 (linksV ls), OV, XV, IV, q]) (upd σ b (srcC ex code a s)) (netV n) := by
        rintro _ rfl
        refine ⟨fun d x hd => ?_, ?_⟩
        ·have e2d : d ≠ b2 := fun e => by subst e; rw [upd_ne _ _ e2, hb2] at hd; cases hd
         have e3d : d ≠ b3 := fun e => by
          subst e
          rw [upd_ne _ _ e3] at hd
          rw [hσ0 _ _ hd] at h03; cases h03
         rw [upd_ne _ _ e2d]
         refine ho.get ?_
         rw [upd_ne _ _ e3d]
         by_cases eb : d = b
         ·subst eb; rw [upd_same] at hd ⊢; exact hd
         ·rw [upd_ne _ _ eb] at hd ⊢; exact hσ0 _ _ hd
        ·subst hn hRV hOV hXV hIV
         have hq : Frz (upd σ1 b2 [V.isl (decide (1 + (v : Int) = 4)) 1 (strsV (names4 (v + 1))), .isl false 3 (linksV ls), .isl false 1 (ints os), .isl fx 1 (ints xs), .isl false 5 (impsV is), q]) (upd σ b (srcC ex code a s)) q (.isl false 4 (filsV fs)) := ho.frz (fun d hd => by
          have hd3 := (upd_none.1 hd).1
          have hd2 : d ≠ b2 := fun e => by
           subst e
           rw [upd_ne _ _ e23, upd_ne _ _ e2, g2] at hd; cases hd
          rw [upd_ne _ _ hd2]) (fun d hd => by
          have h1 := upd_none.1 (upd_none.1 hd).2
          rw [upd_ne _ _ h1.1]
          cases e : σ d with
          | none => rfl
          | some c => rw [hσ0 _ _ e] at h1; cases h1.2)
         exact frz_agg (by exact ⟨.isl _ _ _, .refl _, .refl _, .isl _ _ _, .refl _, hq, trivial⟩) (net_one _)
       by_cases c8 : j > 0
       case' pos =>
        have d1 : decide ((j : Int) > 0) = true := decide_eq_true (by omega)
        have d2 : decide ((ls.length : Int) > 0) = false := decide_eq_false (by omega)
        simp (disch := omega) only [Z6, d1, d2, g3, g2', linksV_len, gq1, hqc, hR1, hO1, hX1, hI1, go_sem]
       case' neg =>
        have d1 : decide ((j : Int) > 0) = false := decide_eq_false (by omega)
        simp (disch := omega) only [Z6, d1, g3, g2', gq1, hqc, hR1, hO1, hX1, hI1, go_sem]
       all_goals
        exact W_retC c37_ok (resV_cellA rfl (upd_same _ _ _) rfl) (fin _ rfl) ⟨n, a, s, hNB, hNL, hos, ha.1, by omega, hs.1, hs.2, rfl, rfl⟩
end
section
attribute [local irreducible] SRun DS DRun
variable {Γ : St} {σ σ0 : St}
theorem NetOf_ok {ex : Bool} {code : List UInt8} (hl : code.length ≤ 140737488355328) : ACalls Tryz.prog Γ 6 [codeV ex code] σ fun r σ' => ∃ n, netB n = true ∧ NetLen n ∧ n.origins.length ≤ 4 ∧ r = netV n ∧ σ' = σ := by
 refine acalls_W c6_ok rfl ?_
 simp (disch := omega) only [c6, go_sem]
 refine SRun.allocR ?_
 intro b2 hb2
 simp (disch := omega) only [go_sem]
 refine SRun.callQ (source_ok hl) ⟨[], rfl, rfl⟩ rfl ?_
 rintro r σ1 ⟨b, s, hb, hs1, hs2, rfl, rfl⟩
 have nb := upd_none.1 hb
 simp (disch := omega) only [go_sem]
 refine SRun.callQ (net_ok (upd_same _ b (srcC ex code 0 s)) ⟨hs1, hs2⟩) ⟨[], rfl, rfl⟩ rfl ?_
 rintro r σ3 ⟨n, a3, s3, q1, q2, q3, q4, q5, q6, q7, rfl, rfl⟩
 rw [upd_upd]
 have g2 : ∀ c, upd (upd σ b2 [V.isl true 0 [], V.isl true 0 [], V.isl true 0 [], V.isl true 0 [], V.isl true 0 [], V.isl true 0 []]) b c b2 = some [V.isl true 0 [], V.isl true 0 [], V.isl true 0 [], V.isl true 0 [], V.isl true 0 [], V.isl true 0 []] := fun c => by rw [upd_ne _ _ nb.1.symm, upd_same]
 have hne := net_one n
 have hnc : netV n = .agg (netC n) := rfl
 have hlen2 : (netC n).length = 6 := rfl
 have hone : (∀ c, c ∈ netC n → c.one = true) = True := eq_true hne
 have hsets : sets [V.isl true 0 [], V.isl true 0 [], V.isl true 0 [], V.isl true 0 [], V.isl true 0 [], V.isl true 0 []] 0 (netC n) = netC n := rfl
 rw [hnc]
 simp (disch := omega) only [g2, hlen2, hone, hsets, go_sem]
 refine W_retC c6_ok (r := .agg (netC n)) (σ' := σ) (r' := netV n) (resV_cellA rfl (upd_same _ _ _) rfl) (Conv.drop _ fun c x hc => ?_) ⟨n, q1, q2, q3, rfl, rfl⟩
 have hc2 : c ≠ b2 := fun e => by subst e; rw [hb2] at hc; cases hc
 have hcb : c ≠ b := fun e => by subst e; rw [nb.2] at hc; cases hc
 rw [upd_ne _ _ hc2, upd_ne _ _ hcb, upd_ne _ _ hc2]; exact hc
theorem bools_app (xs : List Bool) (x : Bool) : bools xs ++ [.bool x] = bools (xs ++ [x]) := by simp [bools]
theorem bool1_ok (x : Bool) : ∀ y ∈ [V.bool x], y.cells.length = 1 ∧ ∀ c ∈ y.cells, c.one = true := by
 intro y hy; rw [List.mem_singleton.1 hy]; simp [V.cells, V.one]
theorem env_ok {b : Nat} {n : Net} {ex : Bool} {code : List UInt8} {s : Int} (hb : σ b = some (srcC ex code 0 s)) (hs : 0 ≤ s ∧ s < 2147483648) (hn : NetR n) :
  ACalls Tryz.prog Γ 55 [.ptr b 0, netV n] σ fun r σ' => ∃ env a' s', env.length = n.externals.length ∧ (env.all fun x => inB x 0 2) = true ∧ r = .isl false 1 (ints env) ∧ σ' = upd σ b (srcC ex code a' s') := by
 have x2 := hn.x2
 have e3 : (netC n)[3]? = some (.isl false 1 (ints n.externals)) := rfl
 refine acalls_W c55_ok rfl ?_
 simp (disch := omega) only [c55, netV, go_sem]
 refine SRun.boxR (net_one n) ?_
 intro b3 hb3
 have e3' : b ≠ b3 := fun e => by subst e; rw [hb] at hb3; cases hb3
 have M3 : ∀ z, upd (upd σ b z) b3 (netC n) b3 = some (netC n) := fun z => upd_same _ _ _
 have Mb : ∀ z, upd (upd σ b z) b3 (netC n) b = some z := fun z => by rw [upd_ne _ _ e3', upd_same]
 have Mu : ∀ z z', upd (upd (upd σ b z) b3 (netC n)) b z' = upd (upd σ b z') b3 (netC n) := fun z z' => by rw [upd_comm _ e3'.symm, upd_upd]
 have h0 : upd σ b3 (netC n) = upd (upd σ b (srcC ex code 0 s)) b3 (netC n) := by rw [upd_self _ hb]
 simp (disch := omega) only [go_sem]
 rw [h0]
 refine W_loopC (α := Nat × List Int × Int × Int × V × St) (fun p => p.1 ≤ n.externals.length ∧ p.2.1.length = p.1 ∧ (p.2.1.all fun x => inB x 0 2) = true ∧ (0 ≤ p.2.2.1 ∧ p.2.2.1 ≤ 3 * p.1) ∧ (0 ≤ p.2.2.2.1 ∧ p.2.2.2.1 < 2147483648) ∧ OwnL (upd (upd σ b (srcC ex code p.2.2.1 p.2.2.2.1)) b3 (netC n)) 1 (ints p.2.1) p.2.2.2.2.1 p.2.2.2.2.2) (fun p => [(0, .ptr b 0), (3, .ptr b3 0), (5, p.2.2.2.2.1), (6, .int .i64 (p.1 : Nat))]) (fun p => p.2.2.2.2.2) (fun p => n.externals.length - p.1) (0, [], 0, s, _, _) ⟨by simp, by simp, by simp, by simp, hs, OwnL.nil _ 1⟩ (by simp (disch := omega) only [subT, Int.natCast_add, Int.cast_ofNat_Int, go_sem] <;> (repeat' apply And.intro) <;> first | rfl | (congr 1; omega) | assumption) rfl ?_
 rintro ⟨i, xs, a, s, q, σ1⟩ ⟨hi, hxl, hall, ha, hs, ho⟩ ih
 dsimp only at hi hxl hall ha hs ho
 have g3 := ho.get (M3 _)
 simp (disch := omega) only [g3, e3, go_sem]
 first | refine iteW_dec (fun h1 => ?_) (fun h1 => ?_) | refine iteW_of (fun h1 => ?_) (fun h1 => ?_)
 ·simp (disch := omega) only [go_sem]
  refine SRun.callQ (next_ok (ho.get (Mb _)) (by omega) hs) ⟨[], rfl, rfl⟩ rfl ?_
  rintro r σ2 ⟨x, a2, s2, x1, _, x3, x4, x5, x6, x7, rfl, rfl⟩
  have hx := x3 (by omega)
  have ho2 := ho.upd (c' := srcC ex code a2 s2) (Mb _)
  rw [Mu] at ho2
  simp (disch := omega) only [go_sem]
  refine SRun.appL ho2 rfl (ints1_ok x) (by simp only [ints_len, List.length_singleton]; omega) ?_
  intro q' σ3 ho3
  rw [ints_app] at ho3
  simp (disch := omega) only [go_sem]
  exact ih (i + 1, xs ++ [x], a2, s2, q', σ3) _ _ ⟨by simp only; omega, by simp only [List.length_append, List.length_singleton]; omega, by simp only; rw [List.all_append, hall]; simp [inB]; omega, by simp only; omega, ⟨x6, x7⟩, ho3⟩ (by simp only; omega) (by simp (disch := omega) only [subT, Int.natCast_add, Int.cast_ofNat_Int, go_sem] <;> (repeat' apply And.intro) <;> first | rfl | (congr 1; omega) | assumption) rfl
 ·simp (disch := omega) only [go_sem]
  refine W_retC c55_ok (r' := .isl false 1 (ints xs)) (σ' := upd σ b (srcC ex code a s)) rfl ⟨fun d x hd => ?_, ho.frz (fun _ _ => rfl) fun d hd => (upd_none.1 hd).2⟩ ⟨xs, a, s, by omega, hall, rfl, rfl⟩
  refine ho.get ?_
  have hd3 : d ≠ b3 := fun e => by
   subst e
   rw [upd_ne _ _ e3'.symm, hb3] at hd; cases hd
  rw [upd_ne _ _ hd3]; exact hd
theorem EnvOf_ok {n : Net} {ex : Bool} {code : List UInt8} (hl : code.length ≤ 140737488355328) (hn : NetR n) : ACalls Tryz.prog Γ 14 [codeV ex code, netV n] σ fun r σ' => ∃ env, env.length = n.externals.length ∧ (env.all fun x => inB x 0 2) = true ∧ r = .isl false 1 (ints env) ∧ σ' = σ := by
 have hlen : (netC n).take 6 = netC n := rfl
 have hlen2 : (netC n).length = 6 := rfl
 refine acalls_W c14_ok rfl ?_
 simp (disch := omega) only [c14, netV, go_sem]
 refine SRun.boxR (net_one n) ?_
 intro b3 hb3
 have g3 := upd_same σ b3 (netC n)
 simp (disch := omega) only [go_sem]
 rw [W_draw]
 refine DRun.start (DRun.mixN rfl ?_)
 simp (disch := omega) only [g3, hlen, hlen2, go_sem]
 refine DS.callQ (source_ok (σ := emp) hl) ⟨[], rfl, rfl⟩ rfl ?_
 rintro r sx ⟨b, s, hb, hs1, hs2, rfl, rfl⟩ hd
 have hbf := disj_new hd
 simp (disch := omega) only [go_sem]
 rw [cup_new]
 have nb := upd_none.1 hbf
 refine DRun.callQ (env_ok (upd_same _ b (srcC ex code 0 s)) ⟨hs1, hs2⟩ hn) ⟨[], rfl, rfl⟩ ?_
 rintro r sx ⟨env, a', s', q1, q2, rfl, rfl⟩
 simp (disch := omega) only [go_sem]
 refine W_retC c14_ok (r' := .isl false 1 (ints env)) (σ' := σ) rfl (Conv.drop _ fun d x h => ?_) ⟨env, q1, q2, rfl, rfl⟩
 have e1 : d ≠ b := fun e => by subst e; rw [nb.2] at h; cases h
 have e2 : d ≠ b3 := fun e => by subst e; rw [hb3] at h; cases h
 simp only [upd_ne _ _ e1, upd_ne _ _ e2]; exact h
end
section
attribute [local irreducible] SRun DS DRun
variable {Γ : St} {σ σ0 : St}
theorem at_any {ex : Bool} {code : List UInt8} {i n : Int} (hl : code.length ≤ 140737488355328) (hi : 0 ≤ i ∧ i ≤ 1000000) (hn : 1 ≤ n ∧ n ≤ 1000000) : ACalls Tryz.prog Γ 8 [codeV ex code, .int .i64 i, .int .i64 n] σ fun r σ' => ∃ v : Int, 0 ≤ v ∧ v < n ∧ r = .int .i64 v ∧ σ' = σ := by
 by_cases h : n = 1
 ·subst h
  refine acalls_W c8_ok rfl ?_
  simp (disch := omega) only [c8, go_sem]
  exact W_retR c8_ok rfl ⟨0, by omega, by omega, rfl, rfl⟩
 ·exact at_ok hl hi (by omega)
def fwdV (n : Net) (down : List Bool) (rs : List Rt) (from_ port : Int) : V := .tup [walkV (fwdA n down rs from_ port), .int .i64 (fwdCode n down rs from_ port)]
theorem Forwards_ok {n : Net} {ex ex2 : Bool} {down : List Bool} {rs : List Rt} {from_ port : Int} (hn : NetLen n) (hd : down.length ≤ 1000000000000) (hr : rs.length ≤ 1000000000000) :
  Ret Tryz.prog Γ 16 [netV n, .isl ex 1 (bools down), .isl ex2 4 (rtsV rs), .int .i64 from_, .int .i64 port] σ (fwdV n down rs from_ port) σ :=
 ACalls.conv (Forwards_own hn hd hr) fun r s ⟨q, h1, h2⟩ => by
  subst h1
  exact ⟨_, σ, ⟨h2.le, frz_tup (by exact ⟨frz_agg (by exact ⟨.refl _, h2.frz, trivial⟩) (by simp [V.one]), .refl _, trivial⟩)⟩, rfl, rfl⟩
theorem fwd_fine {n : Net} {down : List Bool} {rs : List Rt} {from_ port : Int} (hB : netB n = true) (hs : StateR n down rs) (hd : down.length = n.links.length) (hf : 0 ≤ from_ ∧ from_ < n.routers.length) (hp : 0 ≤ port ∧ port ≤ 15) : fwdCode n down rs from_ port = 0 ∧ fwdA n down rs from_ port = walkP n rs from_ port := by
 have hR := netR_of hB
 have r4 := hR.r4
 have l6 := hR.l6
 have hl := hs.len
 have h : fwdCode n down rs from_ port = 0 := by
  unfold fwdCode
  rw [if_neg (by omega), if_neg (by rw [hB, hs.rts]; simp), if_neg (by simp [routerB, inB]; omega), if_neg]
  rw [any_range_f fun i hi => ?_]
  ·simp
  ·unfold downOn
   by_cases hv : (rs.getD i default).via ≥ 0
   ·rw [((hs.ok i hi).link hv).2]; simp
   ·rw [decide_eq_false hv]; rfl
 exact ⟨h, by unfold fwdA; rw [if_pos h]⟩
end
end Go.Proofs.YtabelcohkpmpnaaGreat.Lg
