/- What is told of the functions that are reached, as far as it is asked here. -/
import Derived.Test.YtdenfjbhkdhlkaaKv3
import Derived.KernelRfl
set_option linter.unusedSimpArgs false
set_option linter.unusedVariables false
namespace Go.Proofs.Ytdenfjbhkdhlkaa.Lg
open Go
section
attribute [local irreducible] SRun DS DRun
variable {Γ : St} {σ σ0 : St}
/-- A box with the steps so far, over what is beside. -/
def BoxO (σ0 : St) (F : V → List V) (st : List (Bool × List Int)) (rb : Nat) (σ : St) : Prop := ∃ q, OwnL (upd σ0 rb (F q)) 2 (stepsV st) q σ
theorem BoxO.le {F : V → List V} {st : List (Bool × List Int)} {rb : Nat} (h : BoxO σ0 F st rb σ) : ∀ c x, c ≠ rb → σ0 c = some x → σ c = some x := fun c x hc hx => by
 obtain ⟨q, ho⟩ := h
 exact ho.get (by rw [upd_ne _ _ hc]; exact hx)
theorem BoxO.ext {F : V → List V} {st : List (Bool × List Int)} {rb b : Nat} {z : List V} (h : BoxO σ0 F st rb σ) (hb : σ b = none) : BoxO (upd σ0 b z) F st rb (upd σ b z) ∧ b ≠ rb ∧ ∀ c x, c ≠ rb → σ0 c = some x → upd σ0 b z c = some x := by
 obtain ⟨q, ho⟩ := h
 have e : b ≠ rb := fun e => by subst e; rw [ho.get (upd_same _ _ _)] at hb; cases hb
 refine ⟨⟨q, ?_⟩, e, fun c x hc hx => ?_⟩
 ·have := ho.ext (z := z) hb
  rw [upd_comm _ e.symm] at this
  exact this
 ·rw [upd_ne]
  ·exact hx
  ·intro e2; subst e2
   have := ho.get (b := c) (c := x) (by rw [upd_ne _ _ hc]; exact hx)
   rw [hb] at this; cases this
theorem BoxO.upd {F : V → List V} {st : List (Bool × List Int)} {rb b : Nat} {c c' : List V} (h : BoxO σ0 F st rb σ) (hb : σ0 b = some c) (hne : b ≠ rb) : BoxO (Lg.upd σ0 b c') F st rb (Lg.upd σ b c') := by
 obtain ⟨q, ho⟩ := h
 refine ⟨q, ?_⟩
 have := ho.upd (c' := c') (show Lg.upd σ0 rb (F q) b = some c by rw [upd_ne _ _ hne]; exact hb)
 rw [upd_comm _ hne.symm] at this
 exact this
theorem BoxO.less {σs : St} {F : V → List V} {st : List (Bool × List Int)} {rb : Nat} (h : BoxO σs F st rb σ) (hle : ∀ c x, c ≠ rb → σ0 c = some x → σs c = some x) : ∃ σ2, (∀ c x, σ2 c = some x → σ c = some x) ∧ BoxO σ0 F st rb σ2 := by
 obtain ⟨q, ho⟩ := h
 obtain ⟨s2, h1, h2⟩ := ownL_less (σ := Lg.upd σ0 rb (F q)) ho (fun c x hx => by
  by_cases e : c = rb
  ·subst e; rw [upd_same] at hx ⊢; exact hx
  ·rw [upd_ne _ _ e] at hx ⊢; exact hle c x e hx)
 exact ⟨s2, h1, q, h2⟩
/-- A row of numbers that comes in: written down, or made and beside. -/
def ArgIn (σ0 : St) (rb : Nat) (q : V) (xs : List Int) : Prop := (∃ ex, q = .isl ex 1 (ints xs)) ∨ ∃ b cap, q = .msl b 1 0 xs.length cap ∧ b ≠ rb ∧ σ0 b = some (ints xs) ∧ xs.length ≤ cap
def ArgAt (σ : St) (q : V) (xs : List Int) : Prop := (∃ ex, q = .isl ex 1 (ints xs)) ∨ ∃ b cap, q = .msl b 1 0 xs.length cap ∧ σ b = some (ints xs) ∧ xs.length ≤ cap
theorem ArgIn.at {s : St} {rb : Nat} {q : V} {xs : List Int} (h : ArgIn σ0 rb q xs) (hle : ∀ c x, c ≠ rb → σ0 c = some x → s c = some x) : ArgAt s q xs := by
 rcases h with h | ⟨b, cap, h1, h2, h3, h4⟩
 ·exact .inl h
 ·exact .inr ⟨b, cap, h1, hle _ _ h2 h3, h4⟩
theorem ArgAt.more {s : St} {q : V} {xs : List Int} (h : ArgAt σ q xs) (hle : ∀ c x, σ c = some x → s c = some x) : ArgAt s q xs := by
 rcases h with h | ⟨b, cap, h1, h3, h4⟩
 ·exact .inl h
 ·exact .inr ⟨b, cap, h1, hle _ _ h3, h4⟩
theorem ArgAt.src {q : V} {xs : List Int} (h : ArgAt σ q xs) : srcV σ 1 q = some (flat (ints xs), (ints xs).length) := by
 rcases h with ⟨ex, rfl⟩ | ⟨b, cap, rfl, h3, h4⟩
 ·simp [srcV]
 ·exact src_own h3 rfl
def atQ (q : V) (xs : List Int) (i : Nat) : V := match q with
 | .isl _ _ _ => .iptr [.int .i64 (xs.getD i 0)]
 | .msl b _ _ _ _ => .ptr b i
 | _ => .undef
section
variable {P : Program} {f : FuncId} {n : Nat} {Q : V → St → Prop} {k : List It} {T : Ts} {g : GI} {l : List GI}
theorem stepW_len_arg {s : St} {q : V} {xs : List Int} (h : ArgAt s q xs) : stepW P Γ f n Q (.len (.c q)) g l k T σ = W P Γ f n Q (.ops l :: k) (putT T g.d (.int .i64 xs.length)) σ := by
 rcases h with ⟨ex, rfl⟩ | ⟨b, cap, rfl, h3, h4⟩
 ·rw [stepW_len_isl, ints_len]
 ·rw [stepW_len_msl]
theorem stepW_iaddr_arg {s : St} {q : V} {xs : List Int} {kk : IntKind} {m : Int} (h : ArgAt s q xs) (h0 : 0 ≤ m) (h1 : m < xs.length) : stepW P Γ f n Q (.iaddr 1 (.c q) (.c (.int kk m))) g l k T σ = W P Γ f n Q (.ops l :: k) (putT T g.d (atQ q xs m.toNat)) σ := by
 rcases h with ⟨ex, rfl⟩ | ⟨b, cap, rfl, h3, h4⟩
 ·rw [stepW_iaddr_ints h0 h1]; rfl
 ·rw [stepW_iaddr_own h0 h1]; simp [atQ]
theorem stepW_load_arg {q : V} {xs : List Int} {i : Nat} (h : ArgAt σ q xs) (h1 : i < xs.length) : stepW P Γ f n Q (.load false 1 (.c (atQ q xs i))) g l k T σ = W P Γ f n Q (.ops l :: k) (putT T g.d (.int .i64 (xs.getD i 0))) σ := by
 rcases h with ⟨ex, rfl⟩ | ⟨b, cap, rfl, h3, h4⟩
 ·simp only [atQ, stepW_loadi1]; rfl
 ·simp only [atQ, stepW_load1, h3, ints_get (getD_some 0 h1)]
end
def refC4 (vars : Int) (cls : List (List Int)) (m : Bool) (q : V) : List V := [.int .i64 vars, .isl false 1 (clsV cls), q, .bool m]
theorem setAll_take {vals chosen : List Int} {i : Nat} (h : i < chosen.length) : setAll vals (chosen.take (i + 1)) = setT (setAll vals (chosen.take i)) (chosen.getD i 0) := by
 rw [take_succ 0 h, setAll_snoc]
set_option maxHeartbeats 4000000 in
theorem from_ok {vars : Int} {cls : List (List Int)} (hv : 0 ≤ vars ∧ vars ≤ 40) (hc : ClsOK vars cls) : ∀ (fu : Nat) (σ σ0 : St) (chosen : List Int) (st : List (List Int)) (q : V) (rb : Nat),
  zeros (setAll (zeroVals vars) chosen) < fu → chosen.length + zeros (setAll (zeroVals vars) chosen) ≤ 60 → (∀ x ∈ chosen, litOK vars x) → st.length ≤ 200 → BoxO σ0 (refC4 vars cls false) (adds st) rb σ → ArgIn σ0 rb q chosen →
  ACalls Try.prog Γ 34 [.ptr rb 0, q] σ fun r σ' => r = .bool ((refP vars cls fu chosen st).2 == 0) ∧ BoxO σ0 (refC4 vars cls ((refP vars cls fu chosen st).2 == 7)) (adds (refP vars cls fu chosen st).1) rb σ' := by
 intro fu
 induction fu with
 | zero => intro σ σ0 chosen st q rb h; omega
 | succ fu ihf =>
  intro σ σ0 chosen st q rb hz hcl hx hst hr hq
  obtain ⟨N, hN⟩ : ∃ N : Nat, vars + 1 = N := ⟨(vars + 1).toNat, by omega⟩
  have hl0 := zeroVals_len (vars := vars) (by omega)
  obtain ⟨k1, k2, k3⟩ := setAll_keeps hl0 (zeroVals_tri vars) (zero0_zero vars (by omega)) hx
  obtain ⟨m3, m4, m5⟩ := propGo_keeps hc (zeros (setAll (zeroVals vars) chosen) + 1) (setAll (zeroVals vars) chosen) [] k1 k2
  have spx := (propGo_spec hc (zeros (setAll (zeroVals vars) chosen) + 1) (setAll (zeroVals vars) chosen) [] (by omega) k1 k2).1
  have hzx : ∀ x, litOK vars x → free (setAll (zeroVals vars) chosen) x → zeros (setAll (zeroVals vars) (chosen ++ [x])) + 1 = zeros (setAll (zeroVals vars) chosen) := fun x hx hfr => by rw [setAll_snoc]; exact zeros_set k1 k2 hx hfr
  generalize hS : refP vars cls (fu + 1) chosen st = S
  simp only [refP] at hS
  obtain ⟨qs, ho⟩ := id hr
  have g := ho.get (upd_same _ rb _)
  have hA := hq.at hr.le
  refine acalls_W c34_ok rfl ?_
  simp (disch := omega) only [c34, hN, go_sem]
  simp (disch := omega) only [g, refC4, hN, go_sem]
  refine SRun.mkslR (n' := N) (m := N) rfl rfl rfl (Nat.le_refl _) (by omega) (by omega) ?_
  intro b5 hb5
  rw [zeroVals_flat hN]
  have hA5 : ∀ z, ArgAt (upd σ b5 z) q chosen := fun z => hA.more (le_upd hb5)
  simp (disch := omega) only [go_sem]
  refine W_loopC (fun i : Nat => i ≤ chosen.length) (fun i => [(0, .ptr rb 0), (1, q), (5, .msl b5 1 0 N N), (6, .int .i64 (i : Nat))]) (fun i => upd σ b5 (ints (setAll (zeroVals vars) (chosen.take i)))) (fun i => chosen.length - i) 0 (by omega) (by simp (disch := omega) only [subT, Int.natCast_add, Int.cast_ofNat_Int, go_sem] <;> (repeat' apply And.intro) <;> first | rfl | (congr 1; omega) | assumption) (by rfl) ?_
  intro i hi ih
  have hkk := setAll_keeps (list := chosen.take i) hl0 (zeroVals_tri vars) (zero0_zero vars (by omega)) (fun x hxm => hx x (List.mem_of_mem_take hxm))
  simp (disch := omega) only [stepW_len_arg hA, go_sem]
  first | refine iteW_dec (fun h1 => ?_) (fun h1 => ?_) | refine iteW_of (fun h1 => ?_) (fun h1 => ?_)
  ·have hxi := hx _ (getD_mem 0 (by omega : i < chosen.length))
   simp (disch := omega) only [stepW_iaddr_arg hA, stepW_load_arg (hA5 _), go_sem]
   refine SRun.callR (l02Set_ok (vars := vars) (upd_same _ _ _) (by omega) hkk.1 hxi (by omega)) ⟨[], rfl, rfl⟩ rfl ?_
   rw [upd_upd, ← setAll_take (by omega)]
   simp (disch := omega) only [go_sem]
   exact ih (i + 1) _ _ (by omega) (by omega) (by simp (disch := omega) only [subT, Int.natCast_add, Int.cast_ofNat_Int, go_sem] <;> (repeat' apply And.intro) <;> first | rfl | (congr 1; omega) | assumption) rfl
  ·obtain rfl : i = chosen.length := by omega
   rw [List.take_length]
   have g5 : ∀ z, upd σ b5 z rb = some (refC4 vars cls false qs) := fun z => le_upd hb5 _ _ g
   simp (disch := omega) only [g5, refC4, go_sem]
   refine SRun.callR (l02Run_ok (ex := false) (upd_same _ _ _) (by omega) k1 k2 (by omega) hc) ⟨[], rfl, rfl⟩ rfl ?_
   rw [upd_upd]
   generalize setAll (zeroVals vars) chosen = s at *
   generalize propGo cls (zeros s + 1) s [] = R at *
   obtain ⟨lst, at', w⟩ := R
   dsimp only at *
   simp (disch := omega) only [go_sem]
   obtain ⟨hr5, e5, hle5⟩ := hr.ext (z := ints w) hb5
   have hwl : N = w.length := by omega
   have g5w : upd σ b5 (ints w) b5 = some (ints w) := upd_same _ _ _
   have g5r := g5 (ints w)
   have hA6 := hA5 (ints w)
   clear ih hA5 g5 hr ho g hA
   generalize hσ5 : upd σ b5 (ints w) = s5 at *
   have hσb : upd σ0 b5 (ints w) b5 = some (ints w) := upd_same _ _ _
   generalize hσb' : upd σ0 b5 (ints w) = σb at *
   refine iteW_join (fun T s' => ∃ st' σs, BoxO σs (refC4 vars cls false) (adds st') rb s' ∧ (∀ c x, c ≠ rb → σ0 c = some x → σs c = some x) ∧ st'.length ≤ 200 ∧ finP chosen st' = S ∧ look T 0 = .ptr rb 0 ∧ look T 1 = q) (fun k' key => ?_) ?_
   ·first | refine iteW_dec (fun hq1 => ?_) (fun hq1 => ?_) | refine iteW_of (fun hq1 => ?_) (fun hq1 => ?_)
    ·have hd : decide (at' ≥ 0) = false := decide_eq_false (by omega)
     rw [hd] at hS
     simp only [cond_false] at hS
     simp (disch := omega) only [go_sem]
     refine W_loopC (fun i : Nat => 1 ≤ i ∧ i ≤ w.length ∧ ∀ j, 1 ≤ j → j < i → w.getD j 0 ≠ 0) (fun i => [(0, .ptr rb 0), (1, q), (5, .msl b5 1 0 N N), (9, .int .i64 (i : Nat))]) (fun _ => s5) (fun i => w.length - i) 1 ⟨by omega, by omega, fun j h1 h2 => by omega⟩ (by simp (disch := omega) only [subT, Int.natCast_add, Int.cast_ofNat_Int, go_sem] <;> (repeat' apply And.intro) <;> first | rfl | (congr 1; omega) | assumption) rfl ?_
     rintro i ⟨hi1, hi2, hnz⟩ ih
     have g5r' := g5r
     simp (disch := omega) only [g5r, refC4, go_sem]
     first | refine guardW_dec (fun hi3 => ?_) (fun hi3 => ?_) | refine guardW_by (fun hi3 => ?_) (fun hi3 => ?_)
     ·have hget : (ints w)[i]? = some (.int .i64 (w.getD i 0)) := ints_get (getD_some 0 (by omega))
      simp (disch := omega) only [hget, g5w, go_sem]
      first | refine iteW_dec (fun h0 => ?_) (fun h0 => ?_) | refine iteW_of (fun h0 => ?_) (fun h0 => ?_)
      ·simp (disch := omega) only [go_sem]
       refine ih (i + 1) _ _ ⟨by omega, by omega, fun j p1 p2 => ?_⟩ (by omega) (by simp (disch := omega) only [subT, Int.natCast_add, Int.cast_ofNat_Int, go_sem] <;> (repeat' apply And.intro) <;> first | rfl | (congr 1; omega) | assumption) rfl
       by_cases hji : j = i
       ·subst hji; exact h0
       ·exact hnz j p1 (by omega)
      ·have h0' : w.getD i 0 = 0 := by omega
       have hz1 := findZ_at hi1 (by omega) h0' hnz
       have hz2 : findZ (w.drop 1) 0 + 1 = (i : Int) := by omega
       obtain ⟨hlit, _, hf1, hf2⟩ := findZ_get (vars := vars) (vals := w) (by omega) (by omega : findZ (w.drop 1) 0 + 1 ≠ 0)
       rw [hz2] at hlit hf1 hf2 hS
       have e0 : ((i : Int) == 0) = false := by simp; omega
       rw [e0] at hS
       simp only [cond_false] at hS
       have hneg : (0 : Int) - (i : Int) = -(i : Int) := by omega
       have down : ∀ x, litOK vars x → free w x → free s x := fun x hx h => by
        refine ⟨?_, ?_⟩
        ·cases e : isT s x with
         | false => rfl
         | true => have := spx x hx e; rw [h.1] at this; cases this
        ·cases e : isT s (-x) with
         | false => rfl
         | true => have := spx (-x) (litOK_neg hx) e; rw [h.2] at this; cases this
       simp (disch := omega) only [g5r, refC4, go_sem]
       refine SRun.appS (OwnL.nil 1 1) hA6.src (ints_ok _) (by simp only [List.length_nil, ints_len]; omega) ?_
       intro r69 σ6 ho6
       rw [List.nil_append] at ho6
       simp (disch := omega) only [hneg, go_sem]
       refine SRun.appL ho6 rfl (neg1_ok _) (by simp only [ints_len, List.length_singleton]; omega) ?_
       intro r73 σ7 ho7
       rw [ints_app] at ho7
       obtain ⟨bm, capm, rfl, hbm, hcapm, hnm, rfl⟩ := ho7.at (by simp [ints])
       rw [flat_ints, ints_len] at *
       have hlx1 : ∀ y ∈ chosen ++ [-(i : Int)], litOK vars y := fun y hy => (List.mem_append.1 hy).elim (hx y) fun h => by rw [List.mem_singleton.1 h]; exact litOK_neg hlit
       have hlx2 : ∀ y ∈ chosen ++ [(i : Int)], litOK vars y := fun y hy => (List.mem_append.1 hy).elim (hx y) fun h => by rw [List.mem_singleton.1 h]; exact hlit
       have hz1' := hzx _ (litOK_neg hlit) (down _ (litOK_neg hlit) hf2)
       have hz2' := hzx _ hlit (down _ hlit hf1)
       obtain ⟨hr6, em, hle6⟩ := hr5.ext (z := ints (chosen ++ [-(i : Int)])) hnm
       have hle56 : ∀ c x, c ≠ rb → σ0 c = some x → upd σb bm (ints (chosen ++ [-(i : Int)])) c = some x := fun c x hc hx => hle6 c x hc (hle5 c x hc hx)
       have hle57 : ∀ c x, c ≠ rb → σ0 c = some x → upd σb bm (ints (chosen ++ [(i : Int)])) c = some x := fun c x hc hx => by
        by_cases e : c = bm
        ·subst e
         have := hr5.le c x hc (hle5 c x hc hx)
         rw [hnm] at this; cases this
        ·rw [upd_ne _ _ e]; exact hle5 c x hc hx
       have hm1 := (refP_model (by omega) hc fu (chosen ++ [-(i : Int)]) st hlx1 (by omega)).2
       simp (disch := omega) only [go_sem]
       refine SRun.callQ (ihf (upd s5 bm (ints (chosen ++ [-(i : Int)]))) (upd σb bm (ints (chosen ++ [-(i : Int)]))) (chosen ++ [-(i : Int)]) st (.msl bm 1 0 (chosen.length + 1) capm) rb (by omega) (by rw [List.length_append, List.length_singleton]; omega) hlx1 hst hr6 (.inr ⟨bm, capm, by simp, em, upd_same _ _ _, hcapm⟩)) ⟨[], rfl, rfl⟩ rfl ?_
       rintro _ s8 ⟨rfl, hr8⟩
       have hm2 := fun h200 => (refP_model (by omega) hc fu (chosen ++ [(i : Int)]) (refP vars cls fu (chosen ++ [-(i : Int)]) st).1 hlx2 (by omega)).2.resolve_right h200
       have ihf2 := fun σ h200 h => ihf σ (upd σb bm (ints (chosen ++ [(i : Int)]))) (chosen ++ [(i : Int)]) (refP vars cls fu (chosen ++ [-(i : Int)]) st).1 (.msl bm 1 0 (chosen.length + 1) capm) rb (by omega) (by rw [List.length_append, List.length_singleton]; omega) hlx2 h200 h (.inr ⟨bm, capm, by simp, em, upd_same _ _ _, by simpa using hcapm⟩)
       generalize refP vars cls fu (chosen ++ [-(i : Int)]) st = A at *
       generalize refP vars cls fu (chosen ++ [(i : Int)]) A.1 = B at *
       by_cases hA0 : A.2 = 0
       ·have hA1 : (A.2 == 0) = true := by simpa using hA0
        have hA7 : (A.2 == 7) = false := by rw [hA0]; rfl
        rw [hA1] at hS ⊢
        rw [hA7] at hr8
        simp only [cond_true] at hS
        have gm : s8 bm = some (ints (chosen ++ [-(i : Int)])) := hr8.le bm _ em (upd_same _ _ _)
        have hA8 : ArgAt s8 q chosen := hq.at fun c x hc hx => hr8.le c x hc (hle56 c x hc hx)
        have hset : (chosen ++ [-(i : Int)]).set chosen.length (i : Int) = chosen ++ [(i : Int)] := by simp
        have hcl1 : (ints (chosen ++ [-(i : Int)])).length = chosen.length + 1 := by simp [ints]
        have hr9 := hr8.upd (c' := ints (chosen ++ [(i : Int)])) (upd_same _ _ _) em
        rw [upd_upd] at hr9
        simp (disch := omega) only [stepW_len_arg hA8, gm, ints_set, hset, go_sem]
        refine SRun.callQ (ihf2 _ (by omega) hr9) ⟨[], rfl, rfl⟩ rfl ?_
        rintro _ s10 ⟨rfl, hr10⟩
        have hm3 := hm2 (by omega)
        by_cases hB0 : B.2 = 0
        ·have hB1 : (B.2 == 0) = true := by simpa using hB0
         have hB7 : (B.2 == 7) = false := by rw [hB0]; rfl
         rw [hB1] at hS ⊢
         rw [hB7] at hr10
         simp only [cond_true] at hS
         simp (disch := omega) only [go_sem]
         exact key _ _ ⟨B.1, _, hr10, hle57, hm3, hS, rfl, rfl⟩
        ·have hB1 : (B.2 == 0) = false := by simpa using hB0
         rw [hB1] at hS ⊢
         simp only [cond_false] at hS
         subst hS
         simp (disch := omega) only [go_sem]
         obtain ⟨s9, r1, r2⟩ := hr10.less hle57
         refine W_retC c34_ok rfl (Conv.drop _ r1) ⟨?_, r2⟩
         simp only [look, ev, V.bool.injEq, V.int.injEq, V.str.injEq, V.tup.injEq, V.agg.injEq, V.isl.injEq, List.cons.injEq, true_and, and_true, Nat.reduceEqDiff, Nat.reduceAdd, Nat.reduceSub, Nat.reduceMul, Nat.reducePow, Nat.reduceDiv, Nat.reduceMod, Int.reduceToNat, Nat.reduceLeDiff, Nat.reduceLT, Int.reduceEq, Int.reduceLT, Int.reduceLE, Int.reduceGT, Int.reduceGE, Int.reduceNeg, Int.reduceSub, Int.reduceAdd, Int.reduceMul, Int.reducePow, ne_eq, reduceCtorEq, ↓reduceIte]
         simpa using hB0
       ·have hA1 : (A.2 == 0) = false := by simpa using hA0
        rw [hA1] at hS ⊢
        simp only [cond_false] at hS
        subst hS
        simp (disch := omega) only [go_sem]
        obtain ⟨s9, r1, r2⟩ := hr8.less hle56
        refine W_retC c34_ok rfl (Conv.drop _ r1) ⟨?_, r2⟩
        simp only [look, ev, V.bool.injEq, V.int.injEq, V.str.injEq, V.tup.injEq, V.agg.injEq, V.isl.injEq, List.cons.injEq, true_and, and_true, Nat.reduceEqDiff, Nat.reduceAdd, Nat.reduceSub, Nat.reduceMul, Nat.reducePow, Nat.reduceDiv, Nat.reduceMod, Int.reduceToNat, Nat.reduceLeDiff, Nat.reduceLT, Int.reduceEq, Int.reduceLT, Int.reduceLE, Int.reduceGT, Int.reduceGE, Int.reduceNeg, Int.reduceSub, Int.reduceAdd, Int.reduceMul, Int.reducePow, ne_eq, reduceCtorEq, ↓reduceIte]
        simpa using hA0
     ·have hz1 := findZ_no (vals := w) fun j p1 p2 => hnz j p1 (by omega)
      rw [hz1] at hS
      have hS' : (st, (6 : Int)) = S := hS
      subst hS'
      simp (disch := omega) only [g5r, refC4, go_sem]
      obtain ⟨s9, r1, r2⟩ := hr5.less hle5
      exact W_retC c34_ok rfl (Conv.drop _ r1) ⟨rfl, r2⟩
    ·simp (disch := omega) only [go_sem]
     refine key _ _ ⟨st, σb, hr5, hle5, hst, ?_, rfl, rfl⟩
     have hd : decide (at' ≥ 0) = true := decide_eq_true (by omega)
     rw [hd] at hS
     exact hS
   ·clear hz hzx spx k1 k2 k3 m3 m4 m5 hS hr5 hle5 g5w g5r hA6 hσb hkk hwl
    rintro T s' ⟨st', σs, hr2, hle, hst2, hfin, t0, t1⟩
    have hAs : ArgAt s' q chosen := hq.at fun c x hc hx => hr2.le c x hc (hle c x hc hx)
    obtain ⟨q2, ho2⟩ := id hr2
    have g := ho2.get (upd_same _ rb _)
    have out : (decide (st'.length = 200) || decide (12 < chosen.length)) = true → S = (st', 7) := fun h => by
     rw [← hfin]; unfold finP; rw [h]; rfl
    have fin2 : (decide (st'.length = 200) || decide (12 < chosen.length)) = false → S = (st' ++ [negC chosen], 0) := fun h => by
     rw [← hfin]; unfold finP; rw [h]; rfl
    simp (disch := omega) only [t0, t1, go_sem]
    have start : ∀ p : Nat × V × St, (p.1 ≤ chosen.length ∧ ((p.1 < chosen.length ∧ OwnL s' 1 (ints (negC (chosen.take p.1))) p.2.1 p.2.2) ∨ (p.1 = chosen.length ∧ p.2.1 = .isl false 1 (ints (negC chosen)) ∧ p.2.2 = s'))) → True := fun _ _ => trivial
    by_cases hne : chosen = []
    case' pos =>
     refine W_freezeLoop (T' := [(0, .ptr rb 0), (1, q), (11, .isl false 1 (ints (negC chosen))), (12, .int .i64 0)]) (σ' := s') (fun _ _ h => h) (by
      refine ⟨?_, ?_, ?_, ?_, trivial⟩
      ·rw [show look ((12, V.int IntKind.i64 0) :: (11, V.isl true 1 []) :: (87, V.isl true 1 []) :: T) 0 = .ptr rb 0 from t0]; exact .refl _
      ·rw [show look ((12, V.int IntKind.i64 0) :: (11, V.isl true 1 []) :: (87, V.isl true 1 []) :: T) 1 = q from t1]; exact .refl _
      ·rw [hne]; exact .isl true 1 []
      ·exact .refl _) ?_
     refine W_loopC (α := Nat × V × St) (fun p => p.1 ≤ chosen.length ∧ ((p.1 < chosen.length ∧ OwnL s' 1 (ints (negC (chosen.take p.1))) p.2.1 p.2.2) ∨ (p.1 = chosen.length ∧ p.2.1 = .isl false 1 (ints (negC chosen)) ∧ p.2.2 = s'))) (fun p => [(0, .ptr rb 0), (1, q), (11, p.2.1), (12, .int .i64 (p.1 : Nat))]) (fun p => p.2.2) (fun p => chosen.length - p.1) (0, .isl false 1 (ints (negC chosen)), s') ⟨by simp, .inr ⟨by rw [hne]; rfl, rfl, rfl⟩⟩ (by simp (disch := omega) only [subT, Int.natCast_add, Int.cast_ofNat_Int, go_sem] <;> (repeat' apply And.intro) <;> first | rfl | (congr 1; omega) | assumption) rfl ?_
    case' neg =>
     refine W_loopC (α := Nat × V × St) (fun p => p.1 ≤ chosen.length ∧ ((p.1 < chosen.length ∧ OwnL s' 1 (ints (negC (chosen.take p.1))) p.2.1 p.2.2) ∨ (p.1 = chosen.length ∧ p.2.1 = .isl false 1 (ints (negC chosen)) ∧ p.2.2 = s'))) (fun p => [(0, .ptr rb 0), (1, q), (11, p.2.1), (12, .int .i64 (p.1 : Nat))]) (fun p => p.2.2) (fun p => chosen.length - p.1) (0, .isl true 1 [], s') ⟨by simp, .inl ⟨by have := List.length_pos_iff.2 hne; simpa using this, OwnL.nil 1 1⟩⟩ (by simp (disch := omega) only [subT, Int.natCast_add, Int.cast_ofNat_Int, t0, t1, go_sem] <;> (repeat' apply And.intro) <;> first | rfl | (congr 1; omega) | assumption) rfl ?_
    all_goals
     rintro ⟨i, r11, s6⟩ ⟨hi, hcase⟩ ih
     dsimp only at hi hcase ih
     rcases hcase with ⟨hlt, ho6⟩ | ⟨rfl, rfl, rfl⟩
     ·have hlen6 : (negC (chosen.take i)).length = i := by rw [negC_len, List.length_take]; omega
      have hA6 := hAs.more ho6.le
      have d1 : decide ((i : Int) < (chosen.length : Int)) = true := decide_eq_true (by omega)
      have hxm := hx _ (getD_mem 0 (by omega : i < chosen.length))
      have hneg : (0 : Int) - chosen.getD i 0 = - chosen.getD i 0 := by omega
      have hnx2 := hxm.2
      simp (disch := omega) only [stepW_len_arg hA6, d1, stepW_iaddr_arg hA6, stepW_load_arg hA6, hneg, go_sem]
      refine SRun.appL ho6 rfl (neg1_ok _) (by rw [ints_len, hlen6]; simp only [List.length_singleton]; omega) ?_
      intro q7 s7 ho7
      have hap : ints (negC (chosen.take i)) ++ [V.int .i64 (-chosen.getD i 0)] = ints (negC (chosen.take (i + 1))) := by
       rw [take_succ 0 (by omega)]; simp [ints, negC]
      rw [hap] at ho7
      simp (disch := omega) only [go_sem]
      by_cases hl7 : i + 1 < chosen.length
      ·refine ih (i + 1, q7, s7) _ _ ⟨by simp only; omega, .inl ⟨hl7, ho7⟩⟩ (by simp only; omega) (by simp (disch := omega) only [subT, Int.natCast_add, Int.cast_ofNat_Int, go_sem] <;> (repeat' apply And.intro) <;> first | rfl | (congr 1; omega) | assumption) rfl
      ·have e7 : i + 1 = chosen.length := by omega
       rw [e7, List.take_length] at ho7
       refine W_freezeL (T' := [(0, .ptr rb 0), (1, q), (11, .isl false 1 (ints (negC chosen))), (12, .int .i64 ((i : Int) + 1))]) (σ' := s') ho7.le ⟨.refl _, .refl _, ho7.conv.2, .refl _, trivial⟩ ?_
       refine ih (i + 1, .isl false 1 (ints (negC chosen)), s') _ _ ⟨by simp only; omega, .inr ⟨e7, rfl, rfl⟩⟩ (by simp only; omega) (by simp (disch := omega) only [subT, Int.natCast_add, Int.cast_ofNat_Int, go_sem] <;> (repeat' apply And.intro) <;> first | rfl | (congr 1; omega) | assumption) rfl
     ·have d1 : decide ((chosen.length : Int) < (chosen.length : Int)) = false := decide_eq_false (by omega)
      simp (disch := omega) only [stepW_len_arg hAs, d1, negC_len, go_sem]
      have ho3 := ho2.upd (c' := refC4 vars cls true q2) (upd_same _ rb _)
      rw [upd_upd] at ho3
      have many : (decide (st'.length = 200) || decide (12 < chosen.length)) = true → ∃ s9, (∀ c x, s9 c = some x → upd s6 rb (refC4 vars cls true q2) c = some x) ∧ BoxO σ0 (refC4 vars cls (decide (S.2 = 7))) (adds S.1) rb s9 ∧ S.2 = 7 := fun h => by
       rw [out h]
       obtain ⟨s9, r1, r2⟩ := (show BoxO σs (refC4 vars cls true) (adds st') rb _ from ⟨q2, ho3⟩).less hle
       exact ⟨s9, r1, r2, rfl⟩
      first | refine guardW_dec (fun h5 => ?_) (fun h5 => ?_) | refine guardW_by (fun h5 => ?_) (fun h5 => ?_)
      ·simp (disch := omega) only [g, refC4, go_sem]
       obtain ⟨s9, r1, r2, r3⟩ := many (by rw [decide_eq_true (by omega : 12 < chosen.length), Bool.or_true])
       refine W_retC c34_ok rfl (Conv.drop _ r1) ⟨?_, r2⟩
       simp only [look, ev, V.bool.injEq, V.int.injEq, V.str.injEq, V.tup.injEq, V.agg.injEq, V.isl.injEq, List.cons.injEq, true_and, and_true, Nat.reduceEqDiff, Nat.reduceAdd, Nat.reduceSub, Nat.reduceMul, Nat.reducePow, Nat.reduceDiv, Nat.reduceMod, Int.reduceToNat, Nat.reduceLeDiff, Nat.reduceLT, Int.reduceEq, Int.reduceLT, Int.reduceLE, Int.reduceGT, Int.reduceGE, Int.reduceNeg, Int.reduceSub, Int.reduceAdd, Int.reduceMul, Int.reducePow, ne_eq, reduceCtorEq, ↓reduceIte]
       rw [r3]; simp
      ·simp (disch := omega) only [g, refC4, stepW_len_own ho2, stepsV_len, adds_len, go_sem]
       first | refine iteW_dec (fun h6 => ?_) (fun h6 => ?_) | refine iteW_of (fun h6 => ?_) (fun h6 => ?_)
       ·simp (disch := omega) only [g, refC4, go_sem]
        obtain ⟨s9, r1, r2, r3⟩ := many (by rw [decide_eq_true (by omega : st'.length = 200), Bool.true_or])
        refine W_retC c34_ok rfl (Conv.drop _ r1) ⟨?_, r2⟩
        simp only [look, ev, V.bool.injEq, V.int.injEq, V.str.injEq, V.tup.injEq, V.agg.injEq, V.isl.injEq, List.cons.injEq, true_and, and_true, Nat.reduceEqDiff, Nat.reduceAdd, Nat.reduceSub, Nat.reduceMul, Nat.reducePow, Nat.reduceDiv, Nat.reduceMod, Int.reduceToNat, Nat.reduceLeDiff, Nat.reduceLT, Int.reduceEq, Int.reduceLT, Int.reduceLE, Int.reduceGT, Int.reduceGE, Int.reduceNeg, Int.reduceSub, Int.reduceAdd, Int.reduceMul, Int.reducePow, ne_eq, reduceCtorEq, ↓reduceIte]
        rw [r3]; simp
       ·have hS2 := fin2 (by rw [decide_eq_false (by omega : ¬ 12 < chosen.length), decide_eq_false (by omega : ¬ st'.length = 200)]; rfl)
        subst hS2
        simp (disch := omega) only [g, refC4, go_sem]
        refine SRun.appL ho2 rfl (show ∀ y ∈ [V.agg [.bool false, .isl false 1 (ints (negC chosen))]], y.cells.length = 2 ∧ ∀ c ∈ y.cells, c.one = true from stepsV_ok [(false, negC chosen)]) (by simp only [stepsV_len, adds_len, List.length_singleton]; omega) ?_
        intro q8 s8 ho8
        have hap : stepsV (adds st') ++ [V.agg [.bool false, .isl false 1 (ints (negC chosen))]] = stepsV (adds (st' ++ [negC chosen])) := by rw [adds_app, ← steps_app]; rfl
        rw [hap] at ho8
        have g8 := ho8.get (upd_same _ rb _)
        have ho9 := ho8.upd (c' := refC4 vars cls false q8) (upd_same _ rb _)
        rw [upd_upd] at ho9
        simp (disch := omega) only [g8, refC4, ho8.one, ho8.cells, go_sem]
        obtain ⟨s9, r1, r2⟩ := (show BoxO σs (refC4 vars cls false) (adds (st' ++ [negC chosen])) rb _ from ⟨q8, ho9⟩).less hle
        exact W_retC c34_ok rfl (Conv.drop _ r1) ⟨rfl, r2⟩
end
section
attribute [local irreducible] SRun DS DRun
variable {Γ : St} {σ σ0 : St}
/-- What is said of a refutation. -/
def refA (vars : Int) (cls : List (List Int)) : List (Bool × List Int) × Int := bif (refP vars cls (vars.toNat + 2) [] []).2 == 0 then (adds (refP vars cls (vars.toNat + 2) [] []).1, 0) else ([], (refP vars cls (vars.toNat + 2) [] []).2)
theorem zeros_zeroVals {vars : Int} (hv : 0 ≤ vars) : (zeros (zeroVals vars) : Int) ≤ vars := by
 have h1 : zeros (zeroVals vars) ≤ ((zeroVals vars).drop 1).length := List.count_le_length
 have h2 := zeroVals_len hv
 rw [List.length_drop] at h1; omega
theorem refP_top {vars : Int} {cls : List (List Int)} (hv : 0 ≤ vars) (hc : ClsOK vars cls) : ((refP vars cls (vars.toNat + 2) [] []).2 = 0 ∨ (refP vars cls (vars.toNat + 2) [] []).2 = 7 ∨ ((refP vars cls (vars.toNat + 2) [] []).2 = 6 ∧ modelP vars cls ≠ none)) ∧ (refP vars cls (vars.toNat + 2) [] []).1.length ≤ 200 := by
 have hz := zeros_zeroVals hv
 obtain ⟨h1, h2⟩ := refP_model hv hc (vars.toNat + 2) [] [] (fun x hx => by cases hx) (by show zeros (zeroVals vars) < _; omega)
 exact ⟨h1, by simpa using h2⟩
theorem specRefutation_ok {vars : Int} {cls : List (List Int)} (hb : cnfB vars cls = true) (hv : 0 ≤ vars) :
  Ret Try.prog Γ 16 [cnfV vars cls] σ (.tup [.isl false 2 (stepsV (refA vars cls).1), .int .i64 (refA vars cls).2]) σ := by
 obtain ⟨hc, hv0, hv40, hcl⟩ := clsOK_of hb
 have hz := zeros_zeroVals (vars := vars) (by omega)
 have ht := refP_top hv0 hc
 have hA := refA.eq_1 vars cls
 refine ret_of c16_ok rfl ?_
 simp (disch := omega) only [c16, cnfV, go_sem]
 refine SRun.boxR (by simp [ev, look, V.cells, V.one]) ?_
 intro b1 hb1
 simp (disch := omega) only [go_sem]
 refine SRun.callR (cnfOK_ok hb) ⟨[], rfl, rfl⟩ rfl ?_
 simp (disch := omega) only [go_sem]
 refine SRun.boxR (by simp [ev, look, V.cells, V.one]) ?_
 intro b2 hb2
 have hle2 : ∀ z c x, σ c = some x → upd (upd σ b1 [.int .i64 vars, .isl false 1 (clsV cls)]) b2 z c = some x := fun z c x h => le_upd hb2 _ _ (le_upd hb1 _ _ h)
 generalize upd σ b1 [.int .i64 vars, .isl false 1 (clsV cls)] = s1 at *
 simp (disch := omega) only [go_sem]
 have hro : BoxO s1 (refC4 vars cls false) (adds []) b2 (upd s1 b2 [.int .i64 vars, .isl false 1 (clsV cls), .isl true 0 [], .bool false]) := ⟨.isl true 0 [], OwnL.nil 2 0⟩
 refine SRun.callQ (from_ok (by omega) hc (vars.toNat + 2) _ s1 [] [] (.isl true 1 []) b2 (by show zeros (zeroVals vars) < _; omega) (by show 0 + zeros (zeroVals vars) ≤ 60; omega) (fun x hx => by cases hx) (by simp) hro (.inl ⟨true, rfl⟩)) ⟨[], rfl, rfl⟩ rfl ?_
 rintro _ s3 ⟨rfl, q, ho3⟩
 generalize refP vars cls (vars.toNat + 2) [] [] = R at *
 have g3 := ho3.get (upd_same _ b2 _)
 by_cases h0 : R.2 = 0
 ·rw [h0] at hA g3 ho3
  simp only [beq_self_eq_true, cond_true] at hA
  have h07 : ((0 : Int) == 7) = false := rfl
  rw [h07] at g3 ho3
  have h0b : (R.2 == 0) = true := by simpa using h0
  simp (disch := omega) only [h0b, g3, refC4, go_sem]
  rw [hA]
  have hfz : Frz s3 σ q (.isl false 2 (stepsV (adds R.1))) := ho3.frz (fun _ _ => rfl) fun d hd => by
   cases e : σ d with
   | none => rfl
   | some c => rw [hle2 _ d c e] at hd; cases hd
  refine W_retC c16_ok (r := .tup [q, .int .i64 0]) (r' := .tup [.isl false 2 (stepsV (adds R.1)), .int .i64 0]) rfl ⟨fun c x h => ho3.le c x (hle2 _ c x h), frz_tup (by exact ⟨hfz, .refl _, trivial⟩)⟩ ⟨rfl, rfl⟩
 ·have h0' : (R.2 == 0) = false := by simpa using h0
  rw [h0'] at hA ⊢
  simp only [cond_false] at hA
  rw [hA]
  simp (disch := omega) only [go_sem]
  by_cases h7 : R.2 = 7
  ·have h77 : (R.2 == 7) = true := by simpa using h7
   rw [h77] at g3 ho3
   simp (disch := omega) only [g3, refC4, go_sem]
   rw [h7]
   exact W_retC c16_ok (r := .tup [.isl true 2 [], .int .i64 7]) (r' := .tup [.isl false 2 (stepsV []), .int .i64 7]) rfl ⟨fun c x h => ho3.le c x (hle2 _ c x h), frz_tup (by exact ⟨.isl0 _ _ _ _ (fun _ => rfl), .refl _, trivial⟩)⟩ ⟨rfl, rfl⟩
  ·have h77 : (R.2 == 7) = false := by simpa using h7
   rw [h77] at g3 ho3
   have h6 : R.2 = 6 := by rcases ht.1 with h | h | h <;> first | exact absurd h h0 | exact absurd h h7 | exact h.1
   simp (disch := omega) only [g3, refC4, go_sem]
   rw [h6]
   exact W_retC c16_ok (r := .tup [.isl true 2 [], .int .i64 6]) (r' := .tup [.isl false 2 (stepsV []), .int .i64 6]) rfl ⟨fun c x h => ho3.le c x (hle2 _ c x h), frz_tup (by exact ⟨.isl0 _ _ _ _ (fun _ => rfl), .refl _, trivial⟩)⟩ ⟨rfl, rfl⟩
end
end Go.Proofs.Ytdenfjbhkdhlkaa.Lg
