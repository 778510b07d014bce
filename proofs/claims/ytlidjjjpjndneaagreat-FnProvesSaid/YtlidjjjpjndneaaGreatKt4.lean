/- What is told of the functions that are reached, as far as it is asked here. -/
import Derived.Test.YtlidjjjpjndneaaGreatKt3
import Derived.KernelRfl
set_option linter.unusedSimpArgs false
set_option linter.unusedVariables false
namespace Go.Proofs.YtlidjjjpjndneaaGreat.Lg
open Go
section
attribute [local irreducible] SRun DS DRun
variable {Γ : St} {σ σ0 : St}
/-- A box with the steps so far, over what is beside. -/
def BoxO (σ0 : St) (F : V → List V) (st : List (Bool × List Int)) (rb : Nat) (σ : St) : Prop := ∃ q, OwnL (upd σ0 rb (F q)) 2 (stepsV st) q σ
theorem BoxO.le {F : V → List V} {st : List (Bool × List Int)} {rb : Nat} (h : BoxO σ0 F st rb σ) : ∀ c x, c ≠ rb → σ0 c = some x → σ c = some x := fun c x hc hx => by
 obtain ⟨q, ho⟩ := h
 exact ho.get (by rw [upd_ne _ _ hc]; exact hx)
theorem BoxO.ext {F : V → List V} {st : List (Bool × List Int)} {rb b : Nat} {z : List V} (h : BoxO σ0 F st rb σ) (hb : σ b = none) : BoxO (upd σ0 b z) F st rb (upd σ b z) ∧ b ≠ rb ∧ ∀ c x, c ≠ rb → σ0 c = some x → upd σ0 b z c = some x := by
 obtain ⟨q, ho⟩ := h
 have e : b ≠ rb := fun e => by subst e; rw [ho.get (upd_same _ _ _)] at hb; cases hb
 refine ⟨⟨q, ?_⟩, e, fun c x hc hx => ?_⟩
 ·have := ho.ext (z := z) hb
  rw [upd_comm _ e.symm] at this
  exact this
 ·rw [upd_ne]
  ·exact hx
  ·intro e2; subst e2
   have := ho.get (b := c) (c := x) (by rw [upd_ne _ _ hc]; exact hx)
   rw [hb] at this; cases this
theorem BoxO.upd {F : V → List V} {st : List (Bool × List Int)} {rb b : Nat} {c c' : List V} (h : BoxO σ0 F st rb σ) (hb : σ0 b = some c) (hne : b ≠ rb) : BoxO (Lg.upd σ0 b c') F st rb (Lg.upd σ b c') := by
 obtain ⟨q, ho⟩ := h
 refine ⟨q, ?_⟩
 have := ho.upd (c' := c') (show Lg.upd σ0 rb (F q) b = some c by rw [upd_ne _ _ hne]; exact hb)
 rw [upd_comm _ hne.symm] at this
 exact this
theorem BoxO.less {σs : St} {F : V → List V} {st : List (Bool × List Int)} {rb : Nat} (h : BoxO σs F st rb σ) (hle : ∀ c x, c ≠ rb → σ0 c = some x → σs c = some x) : ∃ σ2, (∀ c x, σ2 c = some x → σ c = some x) ∧ BoxO σ0 F st rb σ2 := by
 obtain ⟨q, ho⟩ := h
 obtain ⟨s2, h1, h2⟩ := ownL_less (σ := Lg.upd σ0 rb (F q)) ho (fun c x hx => by
  by_cases e : c = rb
  ·subst e; rw [upd_same] at hx ⊢; exact hx
  ·rw [upd_ne _ _ e] at hx ⊢; exact hle c x e hx)
 exact ⟨s2, h1, q, h2⟩
/-- A row of numbers that comes in: written down, or made and beside. -/
def ArgIn (σ0 : St) (rb : Nat) (q : V) (xs : List Int) : Prop := (∃ ex, q = .isl ex 1 (ints xs)) ∨ ∃ b cap, q = .msl b 1 0 xs.length cap ∧ b ≠ rb ∧ σ0 b = some (ints xs) ∧ xs.length ≤ cap
def ArgAt (σ : St) (q : V) (xs : List Int) : Prop := (∃ ex, q = .isl ex 1 (ints xs)) ∨ ∃ b cap, q = .msl b 1 0 xs.length cap ∧ σ b = some (ints xs) ∧ xs.length ≤ cap
theorem ArgIn.at {s : St} {rb : Nat} {q : V} {xs : List Int} (h : ArgIn σ0 rb q xs) (hle : ∀ c x, c ≠ rb → σ0 c = some x → s c = some x) : ArgAt s q xs := by
 rcases h with h | ⟨b, cap, h1, h2, h3, h4⟩
 ·exact .inl h
 ·exact .inr ⟨b, cap, h1, hle _ _ h2 h3, h4⟩
theorem ArgAt.more {s : St} {q : V} {xs : List Int} (h : ArgAt σ q xs) (hle : ∀ c x, σ c = some x → s c = some x) : ArgAt s q xs := by
 rcases h with h | ⟨b, cap, h1, h3, h4⟩
 ·exact .inl h
 ·exact .inr ⟨b, cap, h1, hle _ _ h3, h4⟩
theorem ArgAt.src {q : V} {xs : List Int} (h : ArgAt σ q xs) : srcV σ 1 q = some (flat (ints xs), (ints xs).length) := by
 rcases h with ⟨ex, rfl⟩ | ⟨b, cap, rfl, h3, h4⟩
 ·simp [srcV]
 ·exact src_own h3 rfl
def atQ (q : V) (xs : List Int) (i : Nat) : V := match q with
 | .isl _ _ _ => .iptr [.int .i64 (xs.getD i 0)]
 | .msl b _ _ _ _ => .ptr b i
 | _ => .undef
section
variable {P : Program} {f : FuncId} {n : Nat} {Q : V → St → Prop} {k : List It} {T : Ts} {g : GI} {l : List GI}
theorem stepW_len_arg {s : St} {q : V} {xs : List Int} (h : ArgAt s q xs) : stepW P Γ f n Q (.len (.c q)) g l k T σ = W P Γ f n Q (.ops l :: k) (putT T g.d (.int .i64 xs.length)) σ := by
 rcases h with ⟨ex, rfl⟩ | ⟨b, cap, rfl, h3, h4⟩
 ·rw [stepW_len_isl, ints_len]
 ·rw [stepW_len_msl]
theorem stepW_iaddr_arg {s : St} {q : V} {xs : List Int} {kk : IntKind} {m : Int} (h : ArgAt s q xs) (h0 : 0 ≤ m) (h1 : m < xs.length) : stepW P Γ f n Q (.iaddr 1 (.c q) (.c (.int kk m))) g l k T σ = W P Γ f n Q (.ops l :: k) (putT T g.d (atQ q xs m.toNat)) σ := by
 rcases h with ⟨ex, rfl⟩ | ⟨b, cap, rfl, h3, h4⟩
 ·rw [stepW_iaddr_ints h0 h1]; rfl
 ·rw [stepW_iaddr_own h0 h1]; simp [atQ]
theorem stepW_load_arg {q : V} {xs : List Int} {i : Nat} (h : ArgAt σ q xs) (h1 : i < xs.length) : stepW P Γ f n Q (.load false 1 (.c (atQ q xs i))) g l k T σ = W P Γ f n Q (.ops l :: k) (putT T g.d (.int .i64 (xs.getD i 0))) σ := by
 rcases h with ⟨ex, rfl⟩ | ⟨b, cap, rfl, h3, h4⟩
 ·simp only [atQ, stepW_loadi1]; rfl
 ·simp only [atQ, stepW_load1, h3, ints_get (getD_some 0 h1)]
end
def refC4 (vars : Int) (cls : List (List Int)) (m : Bool) (q : V) : List V := [.int .i64 vars, .isl false 1 (clsV cls), q, .bool m]
theorem setAll_take {vals chosen : List Int} {i : Nat} (h : i < chosen.length) : setAll vals (chosen.take (i + 1)) = setT (setAll vals (chosen.take i)) (chosen.getD i 0) := by
 rw [take_succ 0 h, setAll_snoc]
set_option maxHeartbeats 4000000 in
theorem from_ok {vars : Int} {cls : List (List Int)} (hv : 1 ≤ vars ∧ vars ≤ 40) (hc : ClsOK vars cls) : ∀ (fu : Nat) (σ σ0 : St) (chosen : List Int) (st : List (List Int)) (q : V) (rb : Nat),
  zeros (setAll (zeroVals vars) chosen) < fu → chosen.length + zeros (setAll (zeroVals vars) chosen) ≤ 60 → (∀ x ∈ chosen, litOK vars x) → st.length ≤ 200 → BoxO σ0 (refC4 vars cls false) (adds st) rb σ → ArgIn σ0 rb q chosen →
  ACalls Tryz.prog Γ 41 [.ptr rb 0, q] σ fun r σ' => r = .bool ((refP vars cls fu chosen st).2 == 0) ∧ BoxO σ0 (refC4 vars cls ((refP vars cls fu chosen st).2 == 7)) (adds (refP vars cls fu chosen st).1) rb σ' := by
 intro fu
 induction fu with
 | zero => intro σ σ0 chosen st q rb h; omega
 | succ fu ihf =>
  intro σ σ0 chosen st q rb hz hcl hx hst hr hq
  obtain ⟨N, hN⟩ : ∃ N : Nat, vars + 1 = N := ⟨(vars + 1).toNat, by omega⟩
  have hl0 := zeroVals_len (vars := vars) (by omega)
  obtain ⟨k1, k2, k3⟩ := setAll_keeps hl0 (zeroVals_tri vars) (zero0_zero vars (by omega)) hx
  obtain ⟨m3, m4, m5⟩ := propGo_keeps hc (zeros (setAll (zeroVals vars) chosen) + 1) (setAll (zeroVals vars) chosen) [] k1 k2
  have spx := (propGo_spec hc (zeros (setAll (zeroVals vars) chosen) + 1) (setAll (zeroVals vars) chosen) [] (by omega) k1 k2).1
  have hzx : ∀ x, litOK vars x → free (setAll (zeroVals vars) chosen) x → zeros (setAll (zeroVals vars) (chosen ++ [x])) + 1 = zeros (setAll (zeroVals vars) chosen) := fun x hx hfr => by rw [setAll_snoc]; exact zeros_set k1 k2 hx hfr
  generalize hS : refP vars cls (fu + 1) chosen st = S
  simp only [refP] at hS
  obtain ⟨qs, ho⟩ := id hr
  have g := ho.get (upd_same _ rb _)
  have hA := hq.at hr.le
  refine acalls_W c41_ok rfl ?_
  simp (disch := omega) only [c41, hN, go_sem]
  simp (disch := omega) only [g, refC4, hN, go_sem]
  refine SRun.mkslR (n' := N) (m := N) rfl rfl rfl (Nat.le_refl _) (by omega) (by omega) ?_
  intro b5 hb5
  rw [zeroVals_flat hN]
  have hA5 : ∀ z, ArgAt (upd σ b5 z) q chosen := fun z => hA.more (le_upd hb5)
  simp (disch := omega) only [go_sem]
  refine W_loopC (fun i : Nat => i ≤ chosen.length) (fun i => [(0, .ptr rb 0), (1, q), (5, .msl b5 1 0 N N), (6, .int .i64 (i : Nat))]) (fun i => upd σ b5 (ints (setAll (zeroVals vars) (chosen.take i)))) (fun i => chosen.length - i) 0 (by omega) (by simp (disch := omega) only [subT, Int.natCast_add, Int.cast_ofNat_Int, go_sem] <;> (repeat' apply And.intro) <;> first | rfl | (congr 1; omega) | assumption) (by rfl) ?_
  intro i hi ih
  have hkk := setAll_keeps (list := chosen.take i) hl0 (zeroVals_tri vars) (zero0_zero vars (by omega)) (fun x hxm => hx x (List.mem_of_mem_take hxm))
  simp (disch := omega) only [stepW_len_arg hA, go_sem]
  first | refine iteW_dec (fun h1 => ?_) (fun h1 => ?_) | refine iteW_of (fun h1 => ?_) (fun h1 => ?_)
  ·have hxi := hx _ (getD_mem 0 (by omega : i < chosen.length))
   simp (disch := omega) only [stepW_iaddr_arg hA, stepW_load_arg (hA5 _), go_sem]
   refine SRun.callR (l02Set_ok (vars := vars) (upd_same _ _ _) (by omega) hkk.1 hxi (by omega)) ⟨[], rfl, rfl⟩ rfl ?_
   rw [upd_upd, ← setAll_take (by omega)]
   simp (disch := omega) only [go_sem]
   exact ih (i + 1) _ _ (by omega) (by omega) (by simp (disch := omega) only [subT, Int.natCast_add, Int.cast_ofNat_Int, go_sem] <;> (repeat' apply And.intro) <;> first | rfl | (congr 1; omega) | assumption) rfl
  ·obtain rfl : i = chosen.length := by omega
   rw [List.take_length]
   have g5 : ∀ z, upd σ b5 z rb = some (refC4 vars cls false qs) := fun z => le_upd hb5 _ _ g
   simp (disch := omega) only [g5, refC4, go_sem]
   refine SRun.callR (l02Run_ok (ex := false) (upd_same _ _ _) (by omega) k1 k2 (by omega) hc) ⟨[], rfl, rfl⟩ rfl ?_
   rw [upd_upd]
   generalize setAll (zeroVals vars) chosen = s at *
   generalize propGo cls (zeros s + 1) s [] = R at *
   obtain ⟨lst, at', w⟩ := R
   dsimp only at *
   simp (disch := omega) only [go_sem]
   obtain ⟨hr5, e5, hle5⟩ := hr.ext (z := ints w) hb5
   have hwl : N = w.length := by omega
   have g5w : upd σ b5 (ints w) b5 = some (ints w) := upd_same _ _ _
   have g5r := g5 (ints w)
   have hA6 := hA5 (ints w)
   clear ih hA5 g5 hr ho g hA
   generalize hσ5 : upd σ b5 (ints w) = s5 at *
   have hσb : upd σ0 b5 (ints w) b5 = some (ints w) := upd_same _ _ _
   generalize hσb' : upd σ0 b5 (ints w) = σb at *
   refine iteW_join (fun T s' => ∃ st' σs, BoxO σs (refC4 vars cls false) (adds st') rb s' ∧ (∀ c x, c ≠ rb → σ0 c = some x → σs c = some x) ∧ st'.length ≤ 200 ∧ finP chosen st' = S ∧ look T 0 = .ptr rb 0 ∧ look T 1 = q) (fun k' key => ?_) ?_
   ·first | refine iteW_dec (fun hq1 => ?_) (fun hq1 => ?_) | refine iteW_of (fun hq1 => ?_) (fun hq1 => ?_)
    ·have hd : decide (at' ≥ 0) = false := decide_eq_false (by omega)
     rw [hd] at hS
     simp only [cond_false] at hS
     simp (disch := omega) only [go_sem]
     refine W_loopC (fun i : Nat => 1 ≤ i ∧ i ≤ w.length ∧ ∀ j, 1 ≤ j → j < i → w.getD j 0 ≠ 0) (fun i => [(0, .ptr rb 0), (1, q), (5, .msl b5 1 0 N N), (9, .int .i64 (i : Nat))]) (fun _ => s5) (fun i => w.length - i) 1 ⟨by omega, by omega, fun j h1 h2 => by omega⟩ (by simp (disch := omega) only [subT, Int.natCast_add, Int.cast_ofNat_Int, go_sem] <;> (repeat' apply And.intro) <;> first | rfl | (congr 1; omega) | assumption) rfl ?_
     rintro i ⟨hi1, hi2, hnz⟩ ih
     have g5r' := g5r
     simp (disch := omega) only [g5r, refC4, go_sem]
     first | refine guardW_dec (fun hi3 => ?_) (fun hi3 => ?_) | refine guardW_by (fun hi3 => ?_) (fun hi3 => ?_)
     ·have hget : (ints w)[i]? = some (.int .i64 (w.getD i 0)) := ints_get (getD_some 0 (by omega))
      simp (disch := omega) only [hget, g5w, go_sem]
      first | refine iteW_dec (fun h0 => ?_) (fun h0 => ?_) | refine iteW_of (fun h0 => ?_) (fun h0 => ?_)
      ·simp (disch := omega) only [go_sem]
       refine ih (i + 1) _ _ ⟨by omega, by omega, fun j p1 p2 => ?_⟩ (by omega) (by simp (disch := omega) only [subT, Int.natCast_add, Int.cast_ofNat_Int, go_sem] <;> (repeat' apply And.intro) <;> first | rfl | (congr 1; omega) | assumption) rfl
       by_cases hji : j = i
       ·subst hji; exact h0
       ·exact hnz j p1 (by omega)
      ·have h0' : w.getD i 0 = 0 := by omega
       have hz1 := findZ_at hi1 (by omega) h0' hnz
       have hz2 : findZ (w.drop 1) 0 + 1 = (i : Int) := by omega
       obtain ⟨hlit, _, hf1, hf2⟩ := findZ_get (vars := vars) (vals := w) (by omega) (by omega : findZ (w.drop 1) 0 + 1 ≠ 0)
       rw [hz2] at hlit hf1 hf2 hS
       have e0 : ((i : Int) == 0) = false := by simp; omega
       rw [e0] at hS
       simp only [cond_false] at hS
       have hneg : (0 : Int) - (i : Int) = -(i : Int) := by omega
       have down : ∀ x, litOK vars x → free w x → free s x := fun x hx h => by
        refine ⟨?_, ?_⟩
        ·cases e : isT s x with
         | false => rfl
         | true => have := spx x hx e; rw [h.1] at this; cases this
        ·cases e : isT s (-x) with
         | false => rfl
         | true => have := spx (-x) (litOK_neg hx) e; rw [h.2] at this; cases this
       simp (disch := omega) only [g5r, refC4, go_sem]
       refine SRun.appS (OwnL.nil 1 1) hA6.src (ints_ok _) (by simp only [List.length_nil, ints_len]; omega) ?_
       intro r69 σ6 ho6
       rw [List.nil_append] at ho6
       simp (disch := omega) only [hneg, go_sem]
       refine SRun.appL ho6 rfl (neg1_ok _) (by simp only [ints_len, List.length_singleton]; omega) ?_
       intro r73 σ7 ho7
       rw [ints_app] at ho7
       obtain ⟨bm, capm, rfl, hbm, hcapm, hnm, rfl⟩ := ho7.at (by simp [ints])
       rw [flat_ints, ints_len] at *
       have hlx1 : ∀ y ∈ chosen ++ [-(i : Int)], litOK vars y := fun y hy => (List.mem_append.1 hy).elim (hx y) fun h => by rw [List.mem_singleton.1 h]; exact litOK_neg hlit
       have hlx2 : ∀ y ∈ chosen ++ [(i : Int)], litOK vars y := fun y hy => (List.mem_append.1 hy).elim (hx y) fun h => by rw [List.mem_singleton.1 h]; exact hlit
       have hz1' := hzx _ (litOK_neg hlit) (down _ (litOK_neg hlit) hf2)
       have hz2' := hzx _ hlit (down _ hlit hf1)
       obtain ⟨hr6, em, hle6⟩ := hr5.ext (z := ints (chosen ++ [-(i : Int)])) hnm
       have hle56 : ∀ c x, c ≠ rb → σ0 c = some x → upd σb bm (ints (chosen ++ [-(i : Int)])) c = some x := fun c x hc hx => hle6 c x hc (hle5 c x hc hx)
       have hle57 : ∀ c x, c ≠ rb → σ0 c = some x → upd σb bm (ints (chosen ++ [(i : Int)])) c = some x := fun c x hc hx => by
        by_cases e : c = bm
        ·subst e
         have := hr5.le c x hc (hle5 c x hc hx)
         rw [hnm] at this; cases this
        ·rw [upd_ne _ _ e]; exact hle5 c x hc hx
       have hm1 := (refP_model (by omega) hc fu (chosen ++ [-(i : Int)]) st hlx1 (by omega)).2
       simp (disch := omega) only [go_sem]
       refine SRun.callQ (ihf (upd s5 bm (ints (chosen ++ [-(i : Int)]))) (upd σb bm (ints (chosen ++ [-(i : Int)]))) (chosen ++ [-(i : Int)]) st (.msl bm 1 0 (chosen.length + 1) capm) rb (by omega) (by rw [List.length_append, List.length_singleton]; omega) hlx1 hst hr6 (.inr ⟨bm, capm, by simp, em, upd_same _ _ _, hcapm⟩)) ⟨[], rfl, rfl⟩ rfl ?_
       rintro _ s8 ⟨rfl, hr8⟩
       have hm2 := fun h200 => (refP_model (by omega) hc fu (chosen ++ [(i : Int)]) (refP vars cls fu (chosen ++ [-(i : Int)]) st).1 hlx2 (by omega)).2.resolve_right h200
       have ihf2 := fun σ h200 h => ihf σ (upd σb bm (ints (chosen ++ [(i : Int)]))) (chosen ++ [(i : Int)]) (refP vars cls fu (chosen ++ [-(i : Int)]) st).1 (.msl bm 1 0 (chosen.length + 1) capm) rb (by omega) (by rw [List.length_append, List.length_singleton]; omega) hlx2 h200 h (.inr ⟨bm, capm, by simp, em, upd_same _ _ _, by simpa using hcapm⟩)
       generalize refP vars cls fu (chosen ++ [-(i : Int)]) st = A at *
       generalize refP vars cls fu (chosen ++ [(i : Int)]) A.1 = B at *
       by_cases hA0 : A.2 = 0
       ·have hA1 : (A.2 == 0) = true := by simpa using hA0
        have hA7 : (A.2 == 7) = false := by rw [hA0]; rfl
        rw [hA1] at hS ⊢
        rw [hA7] at hr8
        simp only [cond_true] at hS
        have gm : s8 bm = some (ints (chosen ++ [-(i : Int)])) := hr8.le bm _ em (upd_same _ _ _)
        have hA8 : ArgAt s8 q chosen := hq.at fun c x hc hx => hr8.le c x hc (hle56 c x hc hx)
        have hset : (chosen ++ [-(i : Int)]).set chosen.length (i : Int) = chosen ++ [(i : Int)] := by simp
        have hcl1 : (ints (chosen ++ [-(i : Int)])).length = chosen.length + 1 := by simp [ints]
        have hr9 := hr8.upd (c' := ints (chosen ++ [(i : Int)])) (upd_same _ _ _) em
        rw [upd_upd] at hr9
        simp (disch := omega) only [stepW_len_arg hA8, gm, ints_set, hset, go_sem]
        refine SRun.callQ (ihf2 _ (by omega) hr9) ⟨[], rfl, rfl⟩ rfl ?_
        rintro _ s10 ⟨rfl, hr10⟩
        have hm3 := hm2 (by omega)
        by_cases hB0 : B.2 = 0
        ·have hB1 : (B.2 == 0) = true := by simpa using hB0
         have hB7 : (B.2 == 7) = false := by rw [hB0]; rfl
         rw [hB1] at hS ⊢
         rw [hB7] at hr10
         simp only [cond_true] at hS
         simp (disch := omega) only [go_sem]
         exact key _ _ ⟨B.1, _, hr10, hle57, hm3, hS, rfl, rfl⟩
        ·have hB1 : (B.2 == 0) = false := by simpa using hB0
         rw [hB1] at hS ⊢
         simp only [cond_false] at hS
         subst hS
         simp (disch := omega) only [go_sem]
         obtain ⟨s9, r1, r2⟩ := hr10.less hle57
         refine W_retC c41_ok rfl (Conv.drop _ r1) ⟨?_, r2⟩
         simp only [look, ev, V.bool.injEq, V.int.injEq, V.str.injEq, V.tup.injEq, V.agg.injEq, V.isl.injEq, List.cons.injEq, true_and, and_true, Nat.reduceEqDiff, Nat.reduceAdd, Nat.reduceSub, Nat.reduceMul, Nat.reducePow, Nat.reduceDiv, Nat.reduceMod, Int.reduceToNat, Nat.reduceLeDiff, Nat.reduceLT, Int.reduceEq, Int.reduceLT, Int.reduceLE, Int.reduceGT, Int.reduceGE, Int.reduceNeg, Int.reduceSub, Int.reduceAdd, Int.reduceMul, Int.reducePow, ne_eq, reduceCtorEq, ↓reduceIte]
         simpa using hB0
       ·have hA1 : (A.2 == 0) = false := by simpa using hA0
        rw [hA1] at hS ⊢
        simp only [cond_false] at hS
        subst hS
        simp (disch := omega) only [go_sem]
        obtain ⟨s9, r1, r2⟩ := hr8.less hle56
        refine W_retC c41_ok rfl (Conv.drop _ r1) ⟨?_, r2⟩
        simp only [look, ev, V.bool.injEq, V.int.injEq, V.str.injEq, V.tup.injEq, V.agg.injEq, V.isl.injEq, List.cons.injEq, true_and, and_true, Nat.reduceEqDiff, Nat.reduceAdd, Nat.reduceSub, Nat.reduceMul, Nat.reducePow, Nat.reduceDiv, Nat.reduceMod, Int.reduceToNat, Nat.reduceLeDiff, Nat.reduceLT, Int.reduceEq, Int.reduceLT, Int.reduceLE, Int.reduceGT, Int.reduceGE, Int.reduceNeg, Int.reduceSub, Int.reduceAdd, Int.reduceMul, Int.reducePow, ne_eq, reduceCtorEq, ↓reduceIte]
        simpa using hA0
     ·have hz1 := findZ_no (vals := w) fun j p1 p2 => hnz j p1 (by omega)
      rw [hz1] at hS
      have hS' : (st, (6 : Int)) = S := hS
      subst hS'
      simp (disch := omega) only [g5r, refC4, go_sem]
      obtain ⟨s9, r1, r2⟩ := hr5.less hle5
      exact W_retC c41_ok rfl (Conv.drop _ r1) ⟨rfl, r2⟩
    ·simp (disch := omega) only [go_sem]
     refine key _ _ ⟨st, σb, hr5, hle5, hst, ?_, rfl, rfl⟩
     have hd : decide (at' ≥ 0) = true := decide_eq_true (by omega)
     rw [hd] at hS
     exact hS
   ·clear hz hzx spx k1 k2 k3 m3 m4 m5 hS hr5 hle5 g5w g5r hA6 hσb hkk hwl
    rintro T s' ⟨st', σs, hr2, hle, hst2, hfin, t0, t1⟩
    have hAs : ArgAt s' q chosen := hq.at fun c x hc hx => hr2.le c x hc (hle c x hc hx)
    obtain ⟨q2, ho2⟩ := id hr2
    have g := ho2.get (upd_same _ rb _)
    have out : (decide (st'.length = 200) || decide (12 < chosen.length)) = true → S = (st', 7) := fun h => by
     rw [← hfin]; unfold finP; rw [h]; rfl
    have fin2 : (decide (st'.length = 200) || decide (12 < chosen.length)) = false → S = (st' ++ [negC chosen], 0) := fun h => by
     rw [← hfin]; unfold finP; rw [h]; rfl
    simp (disch := omega) only [t0, t1, go_sem]
    have start : ∀ p : Nat × V × St, (p.1 ≤ chosen.length ∧ ((p.1 < chosen.length ∧ OwnL s' 1 (ints (negC (chosen.take p.1))) p.2.1 p.2.2) ∨ (p.1 = chosen.length ∧ p.2.1 = .isl false 1 (ints (negC chosen)) ∧ p.2.2 = s'))) → True := fun _ _ => trivial
    by_cases hne : chosen = []
    case' pos =>
     refine W_freezeLoop (T' := [(0, .ptr rb 0), (1, q), (11, .isl false 1 (ints (negC chosen))), (12, .int .i64 0)]) (σ' := s') (fun _ _ h => h) (by
      refine ⟨?_, ?_, ?_, ?_, trivial⟩
      ·rw [show look ((12, V.int IntKind.i64 0) :: (11, V.isl true 1 []) :: (87, V.isl true 1 []) :: T) 0 = .ptr rb 0 from t0]; exact .refl _
      ·rw [show look ((12, V.int IntKind.i64 0) :: (11, V.isl true 1 []) :: (87, V.isl true 1 []) :: T) 1 = q from t1]; exact .refl _
      ·rw [hne]; exact .isl true 1 []
      ·exact .refl _) ?_
     refine W_loopC (α := Nat × V × St) (fun p => p.1 ≤ chosen.length ∧ ((p.1 < chosen.length ∧ OwnL s' 1 (ints (negC (chosen.take p.1))) p.2.1 p.2.2) ∨ (p.1 = chosen.length ∧ p.2.1 = .isl false 1 (ints (negC chosen)) ∧ p.2.2 = s'))) (fun p => [(0, .ptr rb 0), (1, q), (11, p.2.1), (12, .int .i64 (p.1 : Nat))]) (fun p => p.2.2) (fun p => chosen.length - p.1) (0, .isl false 1 (ints (negC chosen)), s') ⟨by simp, .inr ⟨by rw [hne]; rfl, rfl, rfl⟩⟩ (by simp (disch := omega) only [subT, Int.natCast_add, Int.cast_ofNat_Int, go_sem] <;> (repeat' apply And.intro) <;> first | rfl | (congr 1; omega) | assumption) rfl ?_
    case' neg =>
     refine W_loopC (α := Nat × V × St) (fun p => p.1 ≤ chosen.length ∧ ((p.1 < chosen.length ∧ OwnL s' 1 (ints (negC (chosen.take p.1))) p.2.1 p.2.2) ∨ (p.1 = chosen.length ∧ p.2.1 = .isl false 1 (ints (negC chosen)) ∧ p.2.2 = s'))) (fun p => [(0, .ptr rb 0), (1, q), (11, p.2.1), (12, .int .i64 (p.1 : Nat))]) (fun p => p.2.2) (fun p => chosen.length - p.1) (0, .isl true 1 [], s') ⟨by simp, .inl ⟨by have := List.length_pos_iff.2 hne; simpa using this, OwnL.nil 1 1⟩⟩ (by simp (disch := omega) only [subT, Int.natCast_add, Int.cast_ofNat_Int, t0, t1, go_sem] <;> (repeat' apply And.intro) <;> first | rfl | (congr 1; omega) | assumption) rfl ?_
    all_goals
     rintro ⟨i, r11, s6⟩ ⟨hi, hcase⟩ ih
     dsimp only at hi hcase ih
     rcases hcase with ⟨hlt, ho6⟩ | ⟨rfl, rfl, rfl⟩
     ·have hlen6 : (negC (chosen.take i)).length = i := by rw [negC_len, List.length_take]; omega
      have hA6 := hAs.more ho6.le
      have d1 : decide ((i : Int) < (chosen.length : Int)) = true := decide_eq_true (by omega)
      have hxm := hx _ (getD_mem 0 (by omega : i < chosen.length))
      have hneg : (0 : Int) - chosen.getD i 0 = - chosen.getD i 0 := by omega
      have hnx2 := hxm.2
      simp (disch := omega) only [stepW_len_arg hA6, d1, stepW_iaddr_arg hA6, stepW_load_arg hA6, hneg, go_sem]
      refine SRun.appL ho6 rfl (neg1_ok _) (by rw [ints_len, hlen6]; simp only [List.length_singleton]; omega) ?_
      intro q7 s7 ho7
      have hap : ints (negC (chosen.take i)) ++ [V.int .i64 (-chosen.getD i 0)] = ints (negC (chosen.take (i + 1))) := by
       rw [take_succ 0 (by omega)]; simp [ints, negC]
      rw [hap] at ho7
      simp (disch := omega) only [go_sem]
      by_cases hl7 : i + 1 < chosen.length
      ·refine ih (i + 1, q7, s7) _ _ ⟨by simp only; omega, .inl ⟨hl7, ho7⟩⟩ (by simp only; omega) (by simp (disch := omega) only [subT, Int.natCast_add, Int.cast_ofNat_Int, go_sem] <;> (repeat' apply And.intro) <;> first | rfl | (congr 1; omega) | assumption) rfl
      ·have e7 : i + 1 = chosen.length := by omega
       rw [e7, List.take_length] at ho7
       refine W_freezeL (T' := [(0, .ptr rb 0), (1, q), (11, .isl false 1 (ints (negC chosen))), (12, .int .i64 ((i : Int) + 1))]) (σ' := s') ho7.le ⟨.refl _, .refl _, ho7.conv.2, .refl _, trivial⟩ ?_
       refine ih (i + 1, .isl false 1 (ints (negC chosen)), s') _ _ ⟨by simp only; omega, .inr ⟨e7, rfl, rfl⟩⟩ (by simp only; omega) (by simp (disch := omega) only [subT, Int.natCast_add, Int.cast_ofNat_Int, go_sem] <;> (repeat' apply And.intro) <;> first | rfl | (congr 1; omega) | assumption) rfl
     ·have d1 : decide ((chosen.length : Int) < (chosen.length : Int)) = false := decide_eq_false (by omega)
      simp (disch := omega) only [stepW_len_arg hAs, d1, negC_len, go_sem]
      have ho3 := ho2.upd (c' := refC4 vars cls true q2) (upd_same _ rb _)
      rw [upd_upd] at ho3
      have many : (decide (st'.length = 200) || decide (12 < chosen.length)) = true → ∃ s9, (∀ c x, s9 c = some x → upd s6 rb (refC4 vars cls true q2) c = some x) ∧ BoxO σ0 (refC4 vars cls (decide (S.2 = 7))) (adds S.1) rb s9 ∧ S.2 = 7 := fun h => by
       rw [out h]
       obtain ⟨s9, r1, r2⟩ := (show BoxO σs (refC4 vars cls true) (adds st') rb _ from ⟨q2, ho3⟩).less hle
       exact ⟨s9, r1, r2, rfl⟩
      first | refine guardW_dec (fun h5 => ?_) (fun h5 => ?_) | refine guardW_by (fun h5 => ?_) (fun h5 => ?_)
      ·simp (disch := omega) only [g, refC4, go_sem]
       obtain ⟨s9, r1, r2, r3⟩ := many (by rw [decide_eq_true (by omega : 12 < chosen.length), Bool.or_true])
       refine W_retC c41_ok rfl (Conv.drop _ r1) ⟨?_, r2⟩
       simp only [look, ev, V.bool.injEq, V.int.injEq, V.str.injEq, V.tup.injEq, V.agg.injEq, V.isl.injEq, List.cons.injEq, true_and, and_true, Nat.reduceEqDiff, Nat.reduceAdd, Nat.reduceSub, Nat.reduceMul, Nat.reducePow, Nat.reduceDiv, Nat.reduceMod, Int.reduceToNat, Nat.reduceLeDiff, Nat.reduceLT, Int.reduceEq, Int.reduceLT, Int.reduceLE, Int.reduceGT, Int.reduceGE, Int.reduceNeg, Int.reduceSub, Int.reduceAdd, Int.reduceMul, Int.reducePow, ne_eq, reduceCtorEq, ↓reduceIte]
       rw [r3]; simp
      ·simp (disch := omega) only [g, refC4, stepW_len_own ho2, stepsV_len, adds_len, go_sem]
       first | refine iteW_dec (fun h6 => ?_) (fun h6 => ?_) | refine iteW_of (fun h6 => ?_) (fun h6 => ?_)
       ·simp (disch := omega) only [g, refC4, go_sem]
        obtain ⟨s9, r1, r2, r3⟩ := many (by rw [decide_eq_true (by omega : st'.length = 200), Bool.true_or])
        refine W_retC c41_ok rfl (Conv.drop _ r1) ⟨?_, r2⟩
        simp only [look, ev, V.bool.injEq, V.int.injEq, V.str.injEq, V.tup.injEq, V.agg.injEq, V.isl.injEq, List.cons.injEq, true_and, and_true, Nat.reduceEqDiff, Nat.reduceAdd, Nat.reduceSub, Nat.reduceMul, Nat.reducePow, Nat.reduceDiv, Nat.reduceMod, Int.reduceToNat, Nat.reduceLeDiff, Nat.reduceLT, Int.reduceEq, Int.reduceLT, Int.reduceLE, Int.reduceGT, Int.reduceGE, Int.reduceNeg, Int.reduceSub, Int.reduceAdd, Int.reduceMul, Int.reducePow, ne_eq, reduceCtorEq, ↓reduceIte]
        rw [r3]; simp
       ·have hS2 := fin2 (by rw [decide_eq_false (by omega : ¬ 12 < chosen.length), decide_eq_false (by omega : ¬ st'.length = 200)]; rfl)
        subst hS2
        simp (disch := omega) only [g, refC4, go_sem]
        refine SRun.appL ho2 rfl (show ∀ y ∈ [V.agg [.bool false, .isl false 1 (ints (negC chosen))]], y.cells.length = 2 ∧ ∀ c ∈ y.cells, c.one = true from stepsV_ok [(false, negC chosen)]) (by simp only [stepsV_len, adds_len, List.length_singleton]; omega) ?_
        intro q8 s8 ho8
        have hap : stepsV (adds st') ++ [V.agg [.bool false, .isl false 1 (ints (negC chosen))]] = stepsV (adds (st' ++ [negC chosen])) := by rw [adds_app, ← steps_app]; rfl
        rw [hap] at ho8
        have g8 := ho8.get (upd_same _ rb _)
        have ho9 := ho8.upd (c' := refC4 vars cls false q8) (upd_same _ rb _)
        rw [upd_upd] at ho9
        simp (disch := omega) only [g8, refC4, ho8.one, ho8.cells, go_sem]
        obtain ⟨s9, r1, r2⟩ := (show BoxO σs (refC4 vars cls false) (adds (st' ++ [negC chosen])) rb _ from ⟨q8, ho9⟩).less hle
        exact W_retC c41_ok rfl (Conv.drop _ r1) ⟨rfl, r2⟩
end
section
attribute [local irreducible] SRun DS DRun
variable {Γ : St} {σ σ0 : St}
/-- What is said of a refutation. -/
def refA (vars : Int) (cls : List (List Int)) : List (Bool × List Int) × Int := bif (refP vars cls (vars.toNat + 2) [] []).2 == 0 then (adds (refP vars cls (vars.toNat + 2) [] []).1, 0) else ([], (refP vars cls (vars.toNat + 2) [] []).2)
theorem zeros_zeroVals {vars : Int} (hv : 0 ≤ vars) : (zeros (zeroVals vars) : Int) ≤ vars := by
 have h1 : zeros (zeroVals vars) ≤ ((zeroVals vars).drop 1).length := List.count_le_length
 have h2 := zeroVals_len hv
 rw [List.length_drop] at h1; omega
theorem refP_top {vars : Int} {cls : List (List Int)} (hv : 0 ≤ vars) (hc : ClsOK vars cls) : ((refP vars cls (vars.toNat + 2) [] []).2 = 0 ∨ (refP vars cls (vars.toNat + 2) [] []).2 = 7 ∨ ((refP vars cls (vars.toNat + 2) [] []).2 = 6 ∧ modelP vars cls ≠ none)) ∧ (refP vars cls (vars.toNat + 2) [] []).1.length ≤ 200 := by
 have hz := zeros_zeroVals hv
 obtain ⟨h1, h2⟩ := refP_model hv hc (vars.toNat + 2) [] [] (fun x hx => by cases hx) (by show zeros (zeroVals vars) < _; omega)
 exact ⟨h1, by simpa using h2⟩
theorem Refutation_ok {vars : Int} {cls : List (List Int)} (hb : cnfB vars cls = true) (hv : 1 ≤ vars) :
  Ret Tryz.prog Γ 15 [cnfV vars cls] σ (.tup [.isl false 2 (stepsV (refA vars cls).1), .int .i64 (refA vars cls).2]) σ := by
 obtain ⟨hc, hv0, hv40, hcl⟩ := clsOK_of hb
 have hz := zeros_zeroVals (vars := vars) (by omega)
 have ht := refP_top hv0 hc
 have hA := refA.eq_1 vars cls
 refine ret_of c15_ok rfl ?_
 simp (disch := omega) only [c15, cnfV, go_sem]
 refine SRun.boxR (by simp [ev, look, V.cells, V.one]) ?_
 intro b1 hb1
 simp (disch := omega) only [go_sem]
 refine SRun.callR (isCnf_ok hc.1) ⟨[], rfl, rfl⟩ rfl ?_
 simp (disch := omega) only [hb, go_sem]
 refine SRun.boxR (by simp [ev, look, V.cells, V.one]) ?_
 intro b2 hb2
 have hle2 : ∀ z c x, σ c = some x → upd (upd σ b1 [.int .i64 vars, .isl false 1 (clsV cls)]) b2 z c = some x := fun z c x h => le_upd hb2 _ _ (le_upd hb1 _ _ h)
 have g1 : ∀ z, upd (upd σ b1 [.int .i64 vars, .isl false 1 (clsV cls)]) b2 z b1 = some [.int .i64 vars, .isl false 1 (clsV cls)] := fun z => le_upd hb2 _ _ (upd_same _ _ _)
 generalize upd σ b1 [.int .i64 vars, .isl false 1 (clsV cls)] = s1 at *
 simp (disch := omega) only [g1, go_sem]
 refine SRun.callQ (newState_ok (vars := vars) (cls := cls) (by omega)) ⟨[], rfl, rfl⟩ rfl ?_
 intro r s2 hr
 obtain ⟨b, bv, rfl, ho⟩ := hr.o
 simp (disch := omega) only [go_sem]
 have hro : RefO s1 vars cls (adds []) b2 (upd s1 b2 [.int .i64 vars, .isl false 1 (clsV cls), .isl true 0 []]) := ⟨.isl true 0 [], OwnL.nil 2 0⟩
 refine SRun.callQ (ACalls.pre (args := [.ptr b2 0, .ptr b 0, .isl true 0 []]) (args' := [.ptr b2 0, .ptr b 0, .isl false 1 (ints [])]) (fun _ _ h => h) rfl (frzL_get (by exact ⟨.refl _, .refl _, .isl0 _ _ _ _ (fun _ => rfl), trivial⟩)) (goOn_ok (by omega) hc (vars.toNat + 2) _ _ s1 [] [] (zeroVals vars) b bv b2 (by show zeros (zeroVals vars) < _; omega) (by show 0 + zeros (zeroVals vars) ≤ 60; omega) (fun x hx => by cases hx) (zeroVals_len hv0) (zeroVals_tri vars) (zero0_zero vars hv0) (fun w _ => Iff.rfl) (by simp) hro ho)) ⟨[], rfl, rfl⟩ rfl ?_
 rintro _ s3 ⟨rfl, q, ho3⟩
 generalize refP vars cls (vars.toNat + 2) [] [] = R at *
 have g3 := ho3.get (upd_same _ b2 _)
 by_cases h0 : R.2 = 0
 ·rw [h0] at hA
  simp only [beq_self_eq_true, cond_true] at hA
  simp (disch := omega) only [h0, g3, refC, go_sem]
  rw [hA]
  have hfz : Frz s3 σ q (.isl false 2 (stepsV (adds R.1))) := ho3.frz (fun _ _ => rfl) fun d hd => by
   cases e : σ d with
   | none => rfl
   | some c => rw [hle2 _ d c e] at hd; cases hd
  refine W_retC c15_ok (r := .tup [q, .int .i64 0]) (r' := .tup [.isl false 2 (stepsV (adds R.1)), .int .i64 0]) rfl ⟨fun c x h => ho3.le c x (hle2 _ c x h), frz_tup (by exact ⟨hfz, .refl _, trivial⟩)⟩ ⟨rfl, rfl⟩
 ·have h0' : (R.2 == 0) = false := by simpa using h0
  have h0d : (decide ¬ R.2 = 0) = true := decide_eq_true h0
  rw [h0'] at hA
  simp only [cond_false] at hA
  simp (disch := omega) only [h0d, go_sem]
  rw [hA]
  exact W_retC c15_ok (r := .tup [.isl true 0 [], .int .i64 R.2]) (r' := .tup [.isl false 2 (stepsV []), .int .i64 R.2]) rfl ⟨fun c x h => ho3.le c x (hle2 _ c x h), frz_tup (by exact ⟨.isl0 _ _ _ _ (fun _ => rfl), .refl _, trivial⟩)⟩ ⟨rfl, rfl⟩
theorem specRefutation_ok {vars : Int} {cls : List (List Int)} (hb : cnfB vars cls = true) (hv : 1 ≤ vars) :
  Ret Tryz.prog Γ 18 [cnfV vars cls] σ (.tup [.isl false 2 (stepsV (refA vars cls).1), .int .i64 (refA vars cls).2]) σ := by
 obtain ⟨hc, hv0, hv40, hcl⟩ := clsOK_of hb
 have hz := zeros_zeroVals (vars := vars) (by omega)
 have ht := refP_top hv0 hc
 have hA := refA.eq_1 vars cls
 refine ret_of c18_ok rfl ?_
 simp (disch := omega) only [c18, cnfV, go_sem]
 refine SRun.boxR (by simp [ev, look, V.cells, V.one]) ?_
 intro b1 hb1
 simp (disch := omega) only [go_sem]
 refine SRun.callR (cnfOK_ok hb) ⟨[], rfl, rfl⟩ rfl ?_
 simp (disch := omega) only [go_sem]
 refine SRun.boxR (by simp [ev, look, V.cells, V.one]) ?_
 intro b2 hb2
 have hle2 : ∀ z c x, σ c = some x → upd (upd σ b1 [.int .i64 vars, .isl false 1 (clsV cls)]) b2 z c = some x := fun z c x h => le_upd hb2 _ _ (le_upd hb1 _ _ h)
 generalize upd σ b1 [.int .i64 vars, .isl false 1 (clsV cls)] = s1 at *
 simp (disch := omega) only [go_sem]
 have hro : BoxO s1 (refC4 vars cls false) (adds []) b2 (upd s1 b2 [.int .i64 vars, .isl false 1 (clsV cls), .isl true 0 [], .bool false]) := ⟨.isl true 0 [], OwnL.nil 2 0⟩
 refine SRun.callQ (from_ok (by omega) hc (vars.toNat + 2) _ s1 [] [] (.isl true 1 []) b2 (by show zeros (zeroVals vars) < _; omega) (by show 0 + zeros (zeroVals vars) ≤ 60; omega) (fun x hx => by cases hx) (by simp) hro (.inl ⟨true, rfl⟩)) ⟨[], rfl, rfl⟩ rfl ?_
 rintro _ s3 ⟨rfl, q, ho3⟩
 generalize refP vars cls (vars.toNat + 2) [] [] = R at *
 have g3 := ho3.get (upd_same _ b2 _)
 by_cases h0 : R.2 = 0
 ·rw [h0] at hA g3 ho3
  simp only [beq_self_eq_true, cond_true] at hA
  have h07 : ((0 : Int) == 7) = false := rfl
  rw [h07] at g3 ho3
  have h0b : (R.2 == 0) = true := by simpa using h0
  simp (disch := omega) only [h0b, g3, refC4, go_sem]
  rw [hA]
  have hfz : Frz s3 σ q (.isl false 2 (stepsV (adds R.1))) := ho3.frz (fun _ _ => rfl) fun d hd => by
   cases e : σ d with
   | none => rfl
   | some c => rw [hle2 _ d c e] at hd; cases hd
  refine W_retC c18_ok (r := .tup [q, .int .i64 0]) (r' := .tup [.isl false 2 (stepsV (adds R.1)), .int .i64 0]) rfl ⟨fun c x h => ho3.le c x (hle2 _ c x h), frz_tup (by exact ⟨hfz, .refl _, trivial⟩)⟩ ⟨rfl, rfl⟩
 ·have h0' : (R.2 == 0) = false := by simpa using h0
  rw [h0'] at hA ⊢
  simp only [cond_false] at hA
  rw [hA]
  simp (disch := omega) only [go_sem]
  by_cases h7 : R.2 = 7
  ·have h77 : (R.2 == 7) = true := by simpa using h7
   rw [h77] at g3 ho3
   simp (disch := omega) only [g3, refC4, go_sem]
   rw [h7]
   exact W_retC c18_ok (r := .tup [.isl true 2 [], .int .i64 7]) (r' := .tup [.isl false 2 (stepsV []), .int .i64 7]) rfl ⟨fun c x h => ho3.le c x (hle2 _ c x h), frz_tup (by exact ⟨.isl0 _ _ _ _ (fun _ => rfl), .refl _, trivial⟩)⟩ ⟨rfl, rfl⟩
  ·have h77 : (R.2 == 7) = false := by simpa using h7
   rw [h77] at g3 ho3
   have h6 : R.2 = 6 := by rcases ht.1 with h | h | h <;> first | exact absurd h h0 | exact absurd h h7 | exact h.1
   simp (disch := omega) only [g3, refC4, go_sem]
   rw [h6]
   exact W_retC c18_ok (r := .tup [.isl true 2 [], .int .i64 6]) (r' := .tup [.isl false 2 (stepsV []), .int .i64 6]) rfl ⟨fun c x h => ho3.le c x (hle2 _ c x h), frz_tup (by exact ⟨.isl0 _ _ _ _ (fun _ => rfl), .refl _, trivial⟩)⟩ ⟨rfl, rfl⟩
end
section
attribute [local irreducible] SRun DS DRun
variable {Γ : St} {σ σ0 : St}
theorem flat_cls (cls : List (List Int)) : flat (clsV cls) = clsV cls := by
 induction cls with
 | nil => rfl
 | cons c r ih => show (intsV c).cells ++ flat (clsV r) = intsV c :: clsV r; rw [ih]; rfl
end
section
attribute [local irreducible] SRun DS DRun
variable {Γ : St} {σ σ0 : St}
theorem sameIntsP_ok {ex ex2 : Bool} {xs ys : List Int} (hl : xs.length ≤ 1000000000) : Ret Tryz.prog Γ 19 [.isl ex 1 (ints xs), .isl ex2 1 (ints ys)] σ (.bool (xs == ys)) σ := by
 refine ret_of c19_ok rfl ?_
 simp (disch := omega) only [c19, go_sem]
 first | refine iteW_dec (fun h => ?_) (fun h => ?_) | refine iteW_of (fun h => ?_) (fun h => ?_)
 ·simp (disch := omega) only [go_sem]
  refine W_retR c19_ok rfl ⟨?_, rfl⟩
  simp only [look, ev, V.bool.injEq, V.int.injEq, V.str.injEq, V.tup.injEq, V.agg.injEq, V.isl.injEq, List.cons.injEq, true_and, and_true, Nat.reduceEqDiff, Nat.reduceAdd, Nat.reduceSub, Nat.reduceMul, Nat.reducePow, Nat.reduceDiv, Nat.reduceMod, Int.reduceToNat, Nat.reduceLeDiff, Nat.reduceLT, Int.reduceEq, Int.reduceLT, Int.reduceLE, Int.reduceGT, Int.reduceGE, Int.reduceNeg, Int.reduceSub, Int.reduceAdd, Int.reduceMul, Int.reducePow, ne_eq, reduceCtorEq, ↓reduceIte]
  symm; rw [beq_eq_false_iff_ne]; intro e; exact h (by rw [e])
 ·simp (disch := omega) only [go_sem]
  have hlen : xs.length = ys.length := by omega
  refine W_loopC (fun i : Nat => i ≤ xs.length ∧ xs.take i = ys.take i) (fun i => [(0, .isl ex 1 (ints xs)), (1, .isl ex2 1 (ints ys)), (5, .int .i64 i)]) (fun _ => σ) (fun i => xs.length - i) 0 ⟨by omega, rfl⟩ (by simp (disch := omega) only [subT, Int.natCast_add, Int.cast_ofNat_Int, go_sem] <;> (repeat' apply And.intro) <;> first | rfl | (congr 1; omega) | assumption) rfl ?_
  rintro i ⟨hi, ht⟩ ih
  simp (disch := omega) only [go_sem]
  first | refine iteW_dec (fun h2 => ?_) (fun h2 => ?_) | refine iteW_of (fun h2 => ?_) (fun h2 => ?_)
  ·simp (disch := omega) only [go_sem]
   refine W_drawW ?_
   simp (disch := omega) only [go_sem]
   first | refine iteW_dec (fun h3 => ?_) (fun h3 => ?_) | refine iteW_of (fun h3 => ?_) (fun h3 => ?_)
   ·simp (disch := omega) only [go_sem]
    refine W_retR c19_ok rfl ⟨?_, rfl⟩
    simp only [look, ev, V.bool.injEq, V.int.injEq, V.str.injEq, V.tup.injEq, V.agg.injEq, V.isl.injEq, List.cons.injEq, true_and, and_true, Nat.reduceEqDiff, Nat.reduceAdd, Nat.reduceSub, Nat.reduceMul, Nat.reducePow, Nat.reduceDiv, Nat.reduceMod, Int.reduceToNat, Nat.reduceLeDiff, Nat.reduceLT, Int.reduceEq, Int.reduceLT, Int.reduceLE, Int.reduceGT, Int.reduceGE, Int.reduceNeg, Int.reduceSub, Int.reduceAdd, Int.reduceMul, Int.reducePow, ne_eq, reduceCtorEq, ↓reduceIte]
    symm; rw [beq_eq_false_iff_ne]; intro e; subst e; exact h3 rfl
   ·simp (disch := omega) only [go_sem]
    refine ih (i + 1) _ _ ⟨by omega, ?_⟩ (by omega) (by simp (disch := omega) only [subT, Int.natCast_add, Int.cast_ofNat_Int, go_sem] <;> (repeat' apply And.intro) <;> first | rfl | (congr 1; omega) | assumption) rfl
    rw [take_succ 0 (by omega), take_succ 0 (by omega), ht]
    have h3' : xs.getD i 0 = ys.getD i 0 := by omega
    rw [h3']
  ·simp (disch := omega) only [go_sem]
   refine W_retR c19_ok rfl ⟨?_, rfl⟩
   simp only [look, ev, V.bool.injEq, V.int.injEq, V.str.injEq, V.tup.injEq, V.agg.injEq, V.isl.injEq, List.cons.injEq, true_and, and_true, Nat.reduceEqDiff, Nat.reduceAdd, Nat.reduceSub, Nat.reduceMul, Nat.reducePow, Nat.reduceDiv, Nat.reduceMod, Int.reduceToNat, Nat.reduceLeDiff, Nat.reduceLT, Int.reduceEq, Int.reduceLT, Int.reduceLE, Int.reduceGT, Int.reduceGE, Int.reduceNeg, Int.reduceSub, Int.reduceAdd, Int.reduceMul, Int.reducePow, ne_eq, reduceCtorEq, ↓reduceIte]
   symm; rw [beq_iff_eq]
   rw [List.take_of_length_le (by omega), List.take_of_length_le (by omega)] at ht; exact ht
section
variable {P : Program} {f : FuncId} {n : Nat} {Q : V → St → Prop} {k : List It} {T : Ts} {g : GI} {l : List GI}
theorem stepW_iaddr_steps {ex : Bool} {st : List (Bool × List Int)} {kk : IntKind} {m : Int} (h0 : 0 ≤ m) (h1 : m < st.length) : stepW P Γ f n Q (.iaddr 2 (.c (.isl ex 2 (stepsV st))) (.c (.int kk m))) g l k T σ = W P Γ f n Q (.ops l :: k) (putT T g.d (.iptr [.bool (st.getD m.toNat (false, [])).1, .isl false 1 (ints (st.getD m.toNat (false, [])).2)])) σ := stepW_iaddr_map h0 h1
theorem stepK_iaddr_steps {K : V → St → Prop} {ex : Bool} {st : List (Bool × List Int)} {kk : IntKind} {m : Int} (h0 : 0 ≤ m) (h1 : m < st.length) : stepK (.iaddr 2 (.c (.isl ex 2 (stepsV st))) (.c (.int kk m))) σ K = K (.iptr [.bool (st.getD m.toNat (false, [])).1, .isl false 1 (ints (st.getD m.toNat (false, [])).2)]) σ := stepK_iaddr_map h0 h1
end
attribute [go_sem] stepW_iaddr_steps stepK_iaddr_steps stepsV_len
def stepB (vars : Int) (s : Bool × List Int) : Bool := clauseB vars s.2
def stepsB (vars : Int) (st : List (Bool × List Int)) : Bool := decide (st.length ≤ 200) && st.all (stepB vars)
theorem areSteps1_ok {s : Bool × List Int} {vars : Int} {b : Nat} (hb : σ b = some [.int .i64 vars]) (hv : 0 ≤ vars ∧ vars ≤ 1000000) (hl : s.2.length ≤ 1000000) : Ret Tryz.prog Γ 43 [.agg [.bool s.1, .isl false 1 (ints s.2)], .ptr b 0] σ (.bool (!stepB vars s)) σ := by
 refine ret_of c43_ok rfl ?_
 simp (disch := omega) only [c43, go_sem]
 refine SRun.boxR (by simp [ev, look, V.cells, V.one]) ?_
 intro b2 hb2
 have g : ∀ z, upd σ b2 z b = some [.int .i64 vars] := fun z => le_upd hb2 _ _ hb
 simp (disch := omega) only [g, go_sem]
 refine SRun.callR (isClause_ok (by omega) hv) ⟨[], rfl, rfl⟩ rfl ?_
 simp (disch := omega) only [go_sem]
 exact W_retC c43_ok rfl (Conv.drop _ (le_upd hb2)) ⟨rfl, rfl⟩
theorem indexFuncS_ok {ex : Bool} {xs : List (Bool × List Int)} {F : FuncId} {caps : List V} {p : Bool × List Int → Bool} (hl : xs.length ≤ 140737488355328) (hp : ∀ x ∈ xs, Ret Tryz.prog Γ F (.agg [.bool x.1, .isl false 1 (ints x.2)] :: caps) σ (.bool (p x)) σ) :
  Ret Tryz.prog Γ 77 [.isl ex 2 (stepsV xs), .fn F caps] σ (.int .i64 (match xs.findIdx? p with | some i => (i : Int) | none => -1)) σ := by
 refine ret_of c77_ok rfl ?_
 simp (disch := omega) only [c77, go_sem]
 refine W_loopC (fun i : Nat => i ≤ xs.length ∧ ∀ j x, j < i → xs[j]? = some x → p x = false) (fun i => [(0, .isl ex 2 (stepsV xs)), (1, .fn F caps), (7, .int .i64 xs.length), (8, .int .i64 (i : Nat))]) (fun _ => σ) (fun i => xs.length - i) 0 ⟨by omega, fun j x hj => by omega⟩ (by simp (disch := omega) only [subT, Int.natCast_add, Int.cast_ofNat_Int, go_sem] <;> (repeat' apply And.intro) <;> first | rfl | (congr 1; omega) | assumption) rfl ?_
 rintro i ⟨hi, hno⟩ ih
 simp (disch := omega) only [go_sem]
 first | refine iteW_dec (fun h => ?_) (fun h => ?_) | refine iteW_of (fun h => ?_) (fun h => ?_)
 ·have hlt : i < xs.length := by omega
  have hm := getD_mem (false, []) hlt
  have hs := getD_some (false, []) hlt
  simp (disch := omega) only [go_sem]
  generalize xs.getD i (false, []) = x at hm hs ⊢
  refine SRun.callR (hp _ hm) ⟨caps, rfl, rfl⟩ rfl ?_
  simp (disch := omega) only [go_sem]
  first | refine iteW_dec (fun hb => ?_) (fun hb => ?_) | refine iteW_of (fun hb => ?_) (fun hb => ?_)
  ·simp (disch := omega) only [go_sem]
   refine W_retR c77_ok rfl ⟨?_, rfl⟩
   simp only [look, ev, V.bool.injEq, V.int.injEq, V.str.injEq, V.tup.injEq, V.agg.injEq, V.isl.injEq, List.cons.injEq, true_and, and_true, Nat.reduceEqDiff, Nat.reduceAdd, Nat.reduceSub, Nat.reduceMul, Nat.reducePow, Nat.reduceDiv, Nat.reduceMod, Int.reduceToNat, Nat.reduceLeDiff, Nat.reduceLT, Int.reduceEq, Int.reduceLT, Int.reduceLE, Int.reduceGT, Int.reduceGE, Int.reduceNeg, Int.reduceSub, Int.reduceAdd, Int.reduceMul, Int.reducePow, ne_eq, reduceCtorEq, ↓reduceIte]
   have : xs.findIdx? p = some i := by
    rw [List.findIdx?_eq_some_iff_getElem]
    refine ⟨hlt, ?_, fun j hj => ?_⟩
    ·have : xs[i] = x := by rw [List.getElem?_eq_getElem hlt] at hs; exact Option.some.inj hs
     rw [this]; exact hb
    ·simpa using hno j xs[j] hj (by simp)
   rw [this]
  ·simp (disch := omega) only [go_sem]
   refine ih (i + 1) _ _ ⟨by omega, fun j y hj hy => ?_⟩ (by omega) (by simp (disch := omega) only [subT, Int.natCast_add, Int.cast_ofNat_Int, go_sem] <;> (repeat' apply And.intro) <;> first | rfl | (congr 1; omega) | assumption) rfl
   by_cases hji : j = i
   ·subst hji; rw [hs] at hy; obtain rfl := Option.some.inj hy; simpa using hb
   ·exact hno j y (by omega) hy
 ·simp (disch := omega) only [go_sem]
  refine W_retR c77_ok rfl ⟨?_, rfl⟩
  simp only [look, ev, V.bool.injEq, V.int.injEq, V.str.injEq, V.tup.injEq, V.agg.injEq, V.isl.injEq, List.cons.injEq, true_and, and_true, Nat.reduceEqDiff, Nat.reduceAdd, Nat.reduceSub, Nat.reduceMul, Nat.reducePow, Nat.reduceDiv, Nat.reduceMod, Int.reduceToNat, Nat.reduceLeDiff, Nat.reduceLT, Int.reduceEq, Int.reduceLT, Int.reduceLE, Int.reduceGT, Int.reduceGE, Int.reduceNeg, Int.reduceSub, Int.reduceAdd, Int.reduceMul, Int.reducePow, ne_eq, reduceCtorEq, ↓reduceIte]
  have : xs.findIdx? p = none := by
   rw [List.findIdx?_eq_none_iff]
   intro x hx
   obtain ⟨j, hj, rfl⟩ := List.getElem_of_mem hx
   exact hno j _ (by omega) (by simp)
  rw [this]
theorem containsFuncS_ok {ex : Bool} {xs : List (Bool × List Int)} {F : FuncId} {caps : List V} {p : Bool × List Int → Bool} (hl : xs.length ≤ 140737488355328) (hp : ∀ x ∈ xs, Ret Tryz.prog Γ F (.agg [.bool x.1, .isl false 1 (ints x.2)] :: caps) σ (.bool (p x)) σ) :
  Ret Tryz.prog Γ 42 [.isl ex 2 (stepsV xs), .fn F caps] σ (.bool (xs.any p)) σ := by
 refine ret_of c42_ok rfl ?_
 simp (disch := omega) only [c42, go_sem]
 refine SRun.callR (indexFuncS_ok hl hp) ⟨[], rfl, rfl⟩ rfl ?_
 have h := any_find xs p
 simp (disch := omega) only [go_sem]
 refine W_retR c42_ok rfl ⟨?_, rfl⟩
 simp only [look, ev, V.bool.injEq, V.int.injEq, V.str.injEq, V.tup.injEq, V.agg.injEq, V.isl.injEq, List.cons.injEq, true_and, and_true, Nat.reduceEqDiff, Nat.reduceAdd, Nat.reduceSub, Nat.reduceMul, Nat.reducePow, Nat.reduceDiv, Nat.reduceMod, Int.reduceToNat, Nat.reduceLeDiff, Nat.reduceLT, Int.reduceEq, Int.reduceLT, Int.reduceLE, Int.reduceGT, Int.reduceGE, Int.reduceNeg, Int.reduceSub, Int.reduceAdd, Int.reduceMul, Int.reducePow, ne_eq, reduceCtorEq, ↓reduceIte]
 exact h
theorem areSteps_ok {ex : Bool} {st : List (Bool × List Int)} {vars : Int} (hv : 0 ≤ vars ∧ vars ≤ 1000000) (hl : st.length ≤ 1000000) (hs : ∀ s ∈ st, s.2.length ≤ 1000000) : Ret Tryz.prog Γ 20 [.isl ex 2 (stepsV st), .int .i64 vars] σ (.bool (stepsB vars st)) σ := by
 refine ret_of c20_ok rfl ?_
 simp (disch := omega) only [c20, go_sem]
 refine SRun.boxR (by simp [ev, look, V.cells, V.one]) ?_
 intro b hb
 by_cases h : (st.length : Int) ≤ 200
 ·have d := decide_eq_true h
  simp (disch := omega) only [d, go_sem]
  refine SRun.callR (containsFuncS_ok (p := fun s => !stepB vars s) (by omega) fun s hm => areSteps1_ok (b := b) (upd_same _ _ _) hv (hs s hm)) ⟨[], rfl, rfl⟩ rfl ?_
  simp (disch := omega) only [go_sem]
  refine W_retC c20_ok rfl (Conv.drop _ (le_upd hb)) ⟨?_, rfl⟩
  simp only [look, ev, V.bool.injEq, V.int.injEq, V.str.injEq, V.tup.injEq, V.agg.injEq, V.isl.injEq, List.cons.injEq, true_and, and_true, Nat.reduceEqDiff, Nat.reduceAdd, Nat.reduceSub, Nat.reduceMul, Nat.reducePow, Nat.reduceDiv, Nat.reduceMod, Int.reduceToNat, Nat.reduceLeDiff, Nat.reduceLT, Int.reduceEq, Int.reduceLT, Int.reduceLE, Int.reduceGT, Int.reduceGE, Int.reduceNeg, Int.reduceSub, Int.reduceAdd, Int.reduceMul, Int.reducePow, ne_eq, reduceCtorEq, ↓reduceIte]
  have : decide (st.length ≤ 200) = true := decide_eq_true (by omega)
  unfold stepsB
  rw [this, Bool.true_and, List.all_eq_not_any_not]
 ·have d := decide_eq_false h
  simp (disch := omega) only [d, go_sem]
  refine W_retC c20_ok rfl (Conv.drop _ (le_upd hb)) ⟨?_, rfl⟩
  simp only [look, ev, V.bool.injEq, V.int.injEq, V.str.injEq, V.tup.injEq, V.agg.injEq, V.isl.injEq, List.cons.injEq, true_and, and_true, Nat.reduceEqDiff, Nat.reduceAdd, Nat.reduceSub, Nat.reduceMul, Nat.reducePow, Nat.reduceDiv, Nat.reduceMod, Int.reduceToNat, Nat.reduceLeDiff, Nat.reduceLT, Int.reduceEq, Int.reduceLT, Int.reduceLE, Int.reduceGT, Int.reduceGE, Int.reduceNeg, Int.reduceSub, Int.reduceAdd, Int.reduceMul, Int.reducePow, ne_eq, reduceCtorEq, ↓reduceIte]
  have : decide (st.length ≤ 200) = false := decide_eq_false (by omega)
  unfold stepsB
  rw [this, Bool.false_and]
theorem sameSteps_ok {ex ex2 : Bool} {xs : List (Bool × List Int)} (hl : xs.length ≤ 1000000) (hs : ∀ s ∈ xs, s.2.length ≤ 1000000) : Ret Tryz.prog Γ 8 [.isl ex 2 (stepsV xs), .isl ex2 2 (stepsV xs)] σ (.bool true) σ := by
 refine ret_of c8_ok rfl ?_
 simp (disch := omega) only [c8, go_sem]
 refine W_loopC (fun i : Nat => i ≤ xs.length) (fun i => [(0, .isl ex 2 (stepsV xs)), (1, .isl ex2 2 (stepsV xs)), (5, .int .i64 (i : Nat))]) (fun _ => σ) (fun i => xs.length - i) 0 (by omega) (by simp (disch := omega) only [subT, Int.natCast_add, Int.cast_ofNat_Int, go_sem] <;> (repeat' apply And.intro) <;> first | rfl | (congr 1; omega) | assumption) rfl ?_
 intro i hi ih
 simp (disch := omega) only [go_sem]
 first | refine iteW_dec (fun h => ?_) (fun h => ?_) | refine iteW_of (fun h => ?_) (fun h => ?_)
 ·have hlt : i < xs.length := by omega
  have hm := getD_mem (false, []) hlt
  simp (disch := omega) only [go_sem]
  generalize hse : xs.getD i (false, []) = s at hm ⊢
  have hbb : (!s.1 == s.1) = false := by simp
  refine W_drawW ?_
  simp (disch := omega) only [hse, hbb, go_sem]
  refine DRun.callG (sameIntsP_ok (ex := false) (ex2 := false) (xs := s.2) (ys := s.2) (by have := hs s hm; omega)) ⟨[], rfl, rfl⟩ rfl ?_
  rintro r s' ⟨rfl, rfl⟩
  simp (disch := omega) only [beq_self_eq_true, go_sem]
  exact ih (i + 1) _ _ (by omega) (by omega) (by simp (disch := omega) only [subT, Int.natCast_add, Int.cast_ofNat_Int, go_sem] <;> (repeat' apply And.intro) <;> first | rfl | (congr 1; omega) | assumption) rfl
 ·simp (disch := omega) only [go_sem]
  refine W_retR c8_ok rfl ⟨?_, rfl⟩
  simp only [look, ev, V.bool.injEq, V.int.injEq, V.str.injEq, V.tup.injEq, V.agg.injEq, V.isl.injEq, List.cons.injEq, true_and, and_true, Nat.reduceEqDiff, Nat.reduceAdd, Nat.reduceSub, Nat.reduceMul, Nat.reducePow, Nat.reduceDiv, Nat.reduceMod, Int.reduceToNat, Nat.reduceLeDiff, Nat.reduceLT, Int.reduceEq, Int.reduceLT, Int.reduceLE, Int.reduceGT, Int.reduceGE, Int.reduceNeg, Int.reduceSub, Int.reduceAdd, Int.reduceMul, Int.reducePow, ne_eq, reduceCtorEq, ↓reduceIte]
end
section
attribute [local irreducible] SRun DS DRun
variable {Γ : St} {σ σ0 : St}
theorem cl_of {vars : Int} {cls : List (List Int)} (h : cnfB vars cls = true) : Cl vars cls := fun c hc => by
 simp only [cnfB, Bool.and_eq_true, List.all_eq_true] at h
 have := h.2 c hc
 simp only [clauseB, Bool.and_eq_true, decide_eq_true_eq, List.all_eq_true] at this
 exact ⟨this.1, fun x hx => litB_iff.1 (this.2 x hx)⟩
theorem Cl.more {vars : Int} {cls : List (List Int)} (h : Cl vars cls) (hv : vars ≤ 40) : Cl 40 cls := fun c hc => ⟨(h c hc).1, fun x hx => by have := (h c hc).2 x hx; exact ⟨this.1, by have := this.2; omega, by have := this.2; omega⟩⟩
theorem WrF.appS {P : Program} {T : Ts} {es len : Nat} {cells new : List V} {m : Nat} {d : Option Nat} {by_ : Nat} {s x : Opd} (h : OwnS σ0 es cells len (ev Γ T s) σ) (hsrc : srcV σ es (ev Γ T x) = some (new, m)) (hnl : new.length = m * es) (hfit : (len + m) * by_ ≤ 140737488355328) :
  WrF P Γ σ T ⟨d, none, .app es by_ s x⟩ fun r σ' => OwnS σ0 es (cells ++ new) (len + m) r σ' :=
 WrF.of fun T' hT => InsOK.appO (by rw [hT s (by simp [I.opds])]; exact h) (by rw [hT x (by simp [I.opds])]; exact hsrc) hnl hfit
end
section
section
variable {Γ : St} {σ σ0 : St}
variable {P : Program} {f : FuncId} {n : Nat} {Q : V → St → Prop} {k : List It} {T : Ts}
theorem DRun.mixNQ {t : DT} {segs : List DT} (R : Ts → St → Prop) (hr : rdOK t = true) (h : DSW P Γ σ t T emp R) (hk : ∀ T s, R T s → WD P Γ f n Q k segs T (cup s σ)) : DRun P Γ f n Q (t :: segs) k T σ :=
 ⟨emp, σ, disj_emp_left _, (emp_cup _).symm, DS.mono (fun T s hR => (hk T s hR).sound) (DS.of hr h)⟩
end
attribute [local irreducible] SRun DS DRun
variable {Γ : St} {σ σ0 : St}
theorem cls1_ok (c : List Int) : ∀ y ∈ [V.isl false 1 (ints c)], y.cells.length = 1 ∧ ∀ c ∈ y.cells, c.one = true := by
 intro y hy; rw [List.mem_singleton.1 hy]; simp [V.cells, V.one]
theorem clsK_ok (cls : List (List Int)) : ∀ y ∈ clsV cls, y.cells.length = 1 ∧ ∀ c ∈ y.cells, c.one = true := by
 intro y hy; simp only [clsV, List.mem_map] at hy; obtain ⟨x, _, rfl⟩ := hy; simp [V.cells, V.one, intsV]
theorem cls_app (cls : List (List Int)) (c : List Int) : clsV cls ++ [V.isl false 1 (ints c)] = clsV (cls ++ [c]) := by simp [clsV, intsV]
set_option maxHeartbeats 4000000 in
theorem checkProofN_ok {ex : Bool} {vars : Int} {cls : List (List Int)} {steps : List (Bool × List Int)} (hv : 1 ≤ vars ∧ vars ≤ 40) (hc : Cl vars cls) (hcl : cls.length ≤ 300) (hs : ∀ s ∈ steps, s.2.length ≤ 12 ∧ ∀ x ∈ s.2, litOK vars x) (hsl : steps.length ≤ 200) (hnd : ∀ s ∈ steps, s.1 = false) :
  Ret Tryz.prog Γ 22 [cnfV vars cls, .isl ex 2 (stepsV steps)] σ (.tup [.int .i64 (checkP vars steps cls 0).1, .int .i64 (checkP vars steps cls 0).2]) σ := by
 generalize hR : checkP vars steps cls 0 = R
 refine ret_of c22_ok rfl ?_
 simp (disch := omega) only [c22, cnfV, go_sem]
 refine SRun.boxR (by simp [ev, look, V.cells, V.one]) ?_
 intro b2 hb2
 have g2 := upd_same σ b2 [.int .i64 vars, .isl false 1 (clsV cls)]
 have hle2 : ∀ c x, σ c = some x → upd σ b2 [.int .i64 vars, .isl false 1 (clsV cls)] c = some x := le_upd hb2
 have hsrc : ∀ s : St, srcV s 1 (.isl false 1 (clsV cls)) = some (clsV cls, (clsV cls).length) := fun s => by simp [srcV, flat_cls]
 have hcell : (clsV cls).length = cls.length := clsV_len cls
 have hfl := flat_cls cls
 simp (disch := omega) only [go_sem]
 generalize upd σ b2 [.int .i64 vars, .isl false 1 (clsV cls)] = s2 at *
 rw [W_draw]
 refine DRun.start (DRun.mixNQ (fun T s => ∃ q b6, OwnL (upd emp b6 [.int .i64 0, .isl true 0 []]) 1 (clsV cls) q s ∧ disj s s2 ∧ look T 16 = .agg [.int .i64 vars, q] ∧ look T 6 = .ptr b6 0 ∧ look T 1 = .isl ex 2 (stepsV steps)) rfl ?_ ?_)
 ·simp (disch := omega) only [g2, go_sem]
  refine DS.wr2 (WrF.call (cloneL_ok (σ := emp) (x := .isl false 1 (clsV cls)) (.inl ⟨_, _, _, rfl⟩) (hsrc _) (by omega)) ⟨[], rfl, rfl⟩) rfl ?_ ?_
  ·rintro r s ho hd
   simp (disch := omega) only [ho.one.1, ho.one.2, go_sem]
   refine DS.wrQ WrF.alloc rfl ?_
   rintro _ s3 ⟨b6, hb6, rfl, rfl⟩ hd2
   simp (disch := omega) only [go_sem]
   have hoL : OwnL emp 1 (clsV cls) r s := ⟨by rw [hfl]; exact ho, clsK_ok cls⟩
   exact ⟨r, b6, hoL.ext hb6, hd2, rfl, rfl⟩
  ·refine DS.wrQ WrF.alloc rfl ?_
   rintro _ s3 ⟨b6, hb6, rfl, rfl⟩ hd2
   simp (disch := omega) only [go_sem]
   refine DS.wrQ (WrF.call (cloneL_ok (x := .isl false 1 (clsV cls)) (.inl ⟨_, _, _, rfl⟩) (hsrc _) (by omega)) ⟨[], rfl, rfl⟩) rfl ?_
   rintro r s ho hd
   simp (disch := omega) only [ho.one.1, ho.one.2, go_sem]
   exact ⟨r, b6, ⟨by rw [hfl]; exact ho, clsK_ok cls⟩, hd, rfl, rfl⟩
 rintro T s ⟨q0, b6, ho0, hd0, t16, t6, t1⟩
 have ho := ho0.cup hd0
 rw [cup_new] at ho
 have hb6 : s2 b6 = none := by
  rcases hd0 b6 with h | h
  ·rw [ho0.get (upd_same _ _ _)] at h; cases h
  ·exact h
 have g6 := ho.get (upd_same _ b6 _)
 have ho1 := ho.upd (c' := [.int .i64 vars, q0]) (upd_same _ b6 _)
 rw [upd_upd] at ho1
 generalize cup s s2 = s3 at *
 simp (disch := omega) only [t16, t6, t1, g6, ho.one, ho.cells, go_sem]
 generalize upd s3 b6 [.int .i64 vars, q0] = s4 at *
 refine W_loopC (α := Nat × List (List Int) × V × St) (fun p => p.1 ≤ steps.length ∧ checkP vars (steps.drop p.1) p.2.1 p.1 = R ∧ Cl vars p.2.1 ∧ p.2.1.length ≤ 300 + p.1 ∧ OwnL (upd s2 b6 [.int .i64 vars, p.2.2.1]) 1 (clsV p.2.1) p.2.2.1 p.2.2.2) (fun p => [(1, .isl ex 2 (stepsV steps)), (6, .ptr b6 0), (17, .isl ex 2 (stepsV steps)), (18, .int .i64 steps.length), (19, .int .i64 (p.1 : Nat))]) (fun p => p.2.2.2) (fun p => steps.length - p.1) (0, cls, q0, s4) ⟨by simp, hR, hc, by simp only; omega, ho1⟩ (by simp (disch := omega) only [subT, Int.natCast_add, Int.cast_ofNat_Int, t1, t6, go_sem] <;> (repeat' apply And.intro) <;> first | rfl | (congr 1; omega) | assumption) rfl ?_
 clear ho1 g6 ho hd0 ho0 t16 t6 t1
 rintro ⟨i, cs, q, s5⟩ ⟨hi, hck, hcs, hcsl, ho⟩ ih
 dsimp only at hi hck hcs hcsl ho
 have g6 := ho.get (upd_same _ b6 _)
 have back : ∀ c x, σ c = some x → s5 c = some x := fun c x h => ho.get (b := c) (by
  have h2 := hle2 c x h
  rw [upd_ne _ _ (fun e => by subst e; rw [hb6] at h2; cases h2)]; exact h2)
 simp (disch := omega) only [go_sem]
 first | refine iteW_dec (fun h3 => ?_) (fun h3 => ?_) | refine iteW_of (fun h3 => ?_) (fun h3 => ?_)
 ·have hlt : i < steps.length := by omega
  have hm := getD_mem (false, []) hlt
  rw [drop_cons (false, []) hlt] at hck
  simp (disch := omega) only [go_sem]
  generalize steps.getD i (false, []) = s at hm hck ⊢
  obtain ⟨del, c⟩ := s
  obtain ⟨hc12, hclit⟩ := hs _ hm
  dsimp only at hc12 hclit ⊢
  refine SRun.allocR ?_
  intro b8 hb8
  have hoe := ho.ext (z := [.bool del, .isl false 1 (ints c)]) hb8
  have e86 : b8 ≠ b6 := fun e => by subst e; rw [g6] at hb8; cases hb8
  have g66 : ∀ z, upd s5 b8 z b6 = some [.int .i64 vars, q] := fun z => by rw [upd_ne _ _ e86.symm]; exact g6
  have g8 : upd s5 b8 [.bool del, .isl false 1 (ints c)] b8 = some [.bool del, .isl false 1 (ints c)] := upd_same _ _ _
  have g68 := g66 [.bool del, .isl false 1 (ints c)]
  simp only [checkP] at hck
  simp (disch := omega) only [go_sem]
  have back8 : ∀ d x, σ d = some x → upd s5 b8 [.bool del, .isl false 1 (ints c)] d = some x := fun d x h => le_upd hb8 _ _ (back d x h)
  have c40 : ∀ x ∈ c, litOK 40 x := fun x hx => by have := hclit x hx; exact ⟨this.1, by have := this.2; omega, by have := this.2; omega⟩
  have hn8 : s2 b8 = none := by
   cases e : s2 b8 with
   | none => rfl
   | some z => rw [ho.get (b := b8) (c := z) (by rw [upd_ne _ _ e86]; exact e)] at hb8; cases hb8
  have next : ∀ (cs' : List (List Int)) (r : V) (s9 : St), OwnL (upd (upd s2 b6 [.int .i64 vars, q]) b8 [.bool del, .isl false 1 (ints c)]) 1 (clsV cs') r s9 → ∃ s10, (∀ d x, s10 d = some x → upd s9 b6 [.int .i64 vars, r] d = some x) ∧ OwnL (upd s2 b6 [.int .i64 vars, r]) 1 (clsV cs') r s10 := fun cs' r s9 h => by
   have h1 := h.upd (b := b6) (c := [.int .i64 vars, q]) (c' := [.int .i64 vars, r]) (by rw [upd_ne _ _ e86.symm, upd_same])
   rw [upd_comm _ e86.symm, upd_upd, upd_comm _ e86] at h1
   exact h1.drop (by rw [upd_ne _ _ e86]; exact hn8)
  generalize hs8 : upd s5 b8 [.bool del, .isl false 1 (ints c)] = s8 at *
  cases del with
  | true => exact absurd (hnd _ hm) (by simp)
  | false =>
   simp only [cond_false] at hck
   simp (disch := omega) only [g68, g8, go_sem]
   refine SRun.callR (Ret.lendL (isRup_ok (σ := emp) (ex2 := false) (vars := vars) (cls := cs) (c := c) (by omega) (hcs.ok (by omega)) hclit (by omega)) (by exact ⟨frz_agg (by exact ⟨.refl _, hoe.frz (fun _ _ => rfl) (fun _ _ => rfl), trivial⟩) (by simp [V.one]), .refl _, trivial⟩) (Plain.bool _)) ⟨[], rfl, rfl⟩ rfl ?_
   have hrat := fun Γ => Ret.lendL (σ := s8) (isRat_ok (Γ := Γ) (σ := emp) (vars := vars) (cls := cs) (c := c) (by omega) (hcs.ok (by omega)) hclit (by omega) (fun d hd => by have := (hcs d hd).1; omega)) (args := [.agg [.int .i64 vars, q], .isl false 1 (ints c)]) (by exact ⟨frz_agg (by exact ⟨.refl _, hoe.frz (fun _ _ => rfl) (fun _ _ => rfl), trivial⟩) (by simp [V.one]), .refl _, trivial⟩) (Plain.bool _)
   cases hr1 : rupP vars cs c with
   | false =>
    rw [hr1] at hck
    simp (disch := omega) only [g68, g8, go_sem]
    refine SRun.callR (hrat _) ⟨[], rfl, rfl⟩ rfl ?_
    cases hr2 : ratP vars cs c with
    | false =>
     rw [hr2] at hck
     have hR2 : (i, (8 : Int)) = R := hck
     subst hR2
     simp (disch := omega) only [go_sem]
     exact W_retC c22_ok rfl (Conv.drop _ back8) ⟨rfl, rfl⟩
    | true =>
     rw [hr2] at hck
     simp only [Bool.not_false, Bool.not_true, Bool.and_false, Bool.and_true, cond_false] at hck
     simp (disch := omega) only [g68, g8, go_sem]
     first | refine iteW_dec (fun h0 => ?_) (fun h0 => ?_) | refine iteW_of (fun h0 => ?_) (fun h0 => ?_)
     ·have h00 : (c.length == 0) = true := by simpa using (by omega : c.length = 0)
      rw [h00] at hck
      have hR2 : (i, (0 : Int)) = R := hck
      subst hR2
      simp (disch := omega) only [go_sem]
      exact W_retC c22_ok rfl (Conv.drop _ back8) ⟨rfl, rfl⟩
     ·have h00 : (c.length == 0) = false := by simpa using (by omega : ¬ c.length = 0)
      rw [h00] at hck
      simp only [cond_false] at hck
      simp (disch := omega) only [g68, g8, go_sem]
      refine SRun.appL hoe rfl (cls1_ok c) (by simp only [clsV_len, List.length_singleton]; omega) ?_
      intro r s9 ho9
      rw [cls_app] at ho9
      have g69 := ho9.get (b := b6) (by rw [upd_ne _ _ e86.symm, upd_same])
      obtain ⟨s10, r1, r2⟩ := next _ _ _ ho9
      simp (disch := omega) only [g69, ho9.one, ho9.cells, go_sem]
      refine W_freezeL (T' := [(1, .isl ex 2 (stepsV steps)), (6, .ptr b6 0), (17, .isl ex 2 (stepsV steps)), (18, .int .i64 steps.length), (19, .int .i64 ((i : Int) + 1))]) (σ' := s10) r1 ⟨.refl _, .refl _, .refl _, .refl _, .refl _, trivial⟩ ?_
      exact ih (i + 1, cs ++ [c], r, s10) _ _ ⟨by simp only; omega, hck, hcs.app (Cl.one hc12 hclit), by simp; omega, r2⟩ (by simp only; omega) (by simp (disch := omega) only [subT, Int.natCast_add, Int.cast_ofNat_Int, go_sem] <;> (repeat' apply And.intro) <;> first | rfl | (congr 1; omega) | assumption) rfl
   | true =>
    rw [hr1] at hck
    simp only [Bool.not_true, Bool.false_and, cond_false] at hck
    simp (disch := omega) only [g68, g8, go_sem]
    first | refine iteW_dec (fun h0 => ?_) (fun h0 => ?_) | refine iteW_of (fun h0 => ?_) (fun h0 => ?_)
    ·have h00 : (c.length == 0) = true := by simpa using (by omega : c.length = 0)
     rw [h00] at hck
     have hR2 : (i, (0 : Int)) = R := hck
     subst hR2
     simp (disch := omega) only [go_sem]
     exact W_retC c22_ok rfl (Conv.drop _ back8) ⟨rfl, rfl⟩
    ·have h00 : (c.length == 0) = false := by simpa using (by omega : ¬ c.length = 0)
     rw [h00] at hck
     simp only [cond_false] at hck
     simp (disch := omega) only [g68, g8, go_sem]
     refine SRun.appL hoe rfl (cls1_ok c) (by simp only [clsV_len, List.length_singleton]; omega) ?_
     intro r s9 ho9
     rw [cls_app] at ho9
     have g69 := ho9.get (b := b6) (by rw [upd_ne _ _ e86.symm, upd_same])
     obtain ⟨s10, r1, r2⟩ := next _ _ _ ho9
     simp (disch := omega) only [g69, ho9.one, ho9.cells, go_sem]
     refine W_freezeL (T' := [(1, .isl ex 2 (stepsV steps)), (6, .ptr b6 0), (17, .isl ex 2 (stepsV steps)), (18, .int .i64 steps.length), (19, .int .i64 ((i : Int) + 1))]) (σ' := s10) r1 ⟨.refl _, .refl _, .refl _, .refl _, .refl _, trivial⟩ ?_
     exact ih (i + 1, cs ++ [c], r, s10) _ _ ⟨by simp only; omega, hck, hcs.app (Cl.one hc12 hclit), by simp; omega, r2⟩ (by simp only; omega) (by simp (disch := omega) only [subT, Int.natCast_add, Int.cast_ofNat_Int, go_sem] <;> (repeat' apply And.intro) <;> first | rfl | (congr 1; omega) | assumption) rfl
 ·obtain rfl : i = steps.length := by omega
  rw [List.drop_length] at hck
  have hR2 : (steps.length, (3 : Int)) = R := hck
  subst hR2
  simp (disch := omega) only [go_sem]
  exact W_retC c22_ok rfl (Conv.drop _ back) ⟨rfl, rfl⟩
end
section
attribute [local irreducible] SRun DS DRun
variable {Γ : St} {σ σ0 : St}
def StepsOK (vars : Int) (st : List (Bool × List Int)) : Prop := ∀ s ∈ st, s.2.length ≤ 12 ∧ ∀ x ∈ s.2, litOK vars x
theorem refA_steps {vars : Int} {cls : List (List Int)} (hv : 1 ≤ vars) (hc : Cl vars cls) (hl : cls.length ≤ 300) : (refA vars cls).1.length ≤ 200 ∧ StepsOK vars (refA vars cls).1 := by
 have ht := refP_top (by omega) (hc.ok (by omega))
 have hA := refA.eq_1 vars cls
 generalize hR : refP vars cls (vars.toNat + 2) [] [] = R at *
 obtain ⟨out, c⟩ := R
 by_cases h0 : c = 0
 ·subst h0
  obtain ⟨_, _, h3⟩ := refP_proof (by omega) hc (by omega) hR (by have := ht.2; simp only at this; omega)
  have hA2 : refA vars cls = (adds out, 0) := hA
  rw [hA2]
  refine ⟨by rw [adds_len]; exact ht.2, fun s hs => ?_⟩
  simp only [adds, List.mem_map] at hs
  obtain ⟨d, hd, rfl⟩ := hs
  exact h3 d hd
 ·have h0' : (c == 0) = false := by simpa using h0
  have hA2 : refA vars cls = ([], c) := by rw [hA]; simp only [h0', cond_false]
  rw [hA2]
  exact ⟨by simp, fun s hs => by cases hs⟩
end
section
attribute [local irreducible] SRun DS DRun
variable {Γ : St} {σ σ0 : St}
/-- What is said of a proof of any steps. -/
def checkA (vars : Int) (st : List (Bool × List Int)) (cls : List (List Int)) : Nat × Int := bif stepsB vars st then checkP vars st cls 0 else (0, 1)
/-- What the refutation of a formula comes to. -/
theorem refA_law {vars : Int} {cls : List (List Int)} (hb : cnfB vars cls = true) (hv : 1 ≤ vars) : ((refA vars cls).2 = 7 ∨ ((refA vars cls).2 = 6 ∧ (leastA (modelP vars cls)).2 = 0)) ∨ ((refA vars cls).2 = 0 ∧ 1 ≤ (refA vars cls).1.length ∧ checkA vars (refA vars cls).1 cls = ((refA vars cls).1.length - 1, 0)) := by
 obtain ⟨hc, hv0, hv40, hcl⟩ := clsOK_of hb
 have hcl2 := cl_of hb
 have ht := refP_top hv0 hc
 have hA := refA.eq_1 vars cls
 obtain ⟨s1, s2⟩ := refA_steps hv hcl2 hcl
 generalize hR : refP vars cls (vars.toNat + 2) [] [] = R at *
 obtain ⟨out, c⟩ := R
 by_cases h0 : c = 0
 ·subst h0
  obtain ⟨h1, h2, h3⟩ := refP_proof hv0 hcl2 (by omega) hR (by have := ht.2; simp only at this; omega)
  have hA2 : refA vars cls = (adds out, 0) := hA
  rw [hA2] at s1 s2 ⊢
  have hsb : stepsB vars (adds out) = true := by
   simp only [stepsB, stepB, clauseB, Bool.and_eq_true, decide_eq_true_eq, List.all_eq_true]
   exact ⟨s1, fun s hs => ⟨(s2 s hs).1, fun x hx => litB_iff.2 ((s2 s hs).2 x hx)⟩⟩
  refine .inr ⟨rfl, by rw [adds_len]; exact h1, ?_⟩
  unfold checkA
  rw [hsb, adds_len]
  exact h2
 ·have h0' : (c == 0) = false := by simpa using h0
  have hA2 : refA vars cls = ([], c) := by rw [hA]; simp only [h0', cond_false]
  rw [hA2]
  refine .inl ?_
  rcases ht.1 with h | h | ⟨h, hm⟩
  ·exact absurd h h0
  ·exact .inl h
  ·refine .inr ⟨h, ?_⟩
   cases e : modelP vars cls with
   | none => exact absurd e hm
   | some v => rfl
end
end Go.Proofs.YtlidjjjpjndneaaGreat.Lg
