/- The program's refutation: each step's clause in a block of its own. -/
import Derived.Test.YtdenfjbhkdhlkaaIc
set_option linter.unusedSimpArgs false
set_option linter.unusedVariables false
namespace Go.Proofs.Ytdenfjbhkdhlkaa.Lg
open Go
attribute [local irreducible] SRun DS DRun
variable {Γ : St} {σ σ0 : St}
section
variable {P : Program} {f : FuncId} {n : Nat} {Q : V → St → Prop} {k : List It} {T : Ts}
theorem DRun.mix {b : Nat} {c : List V} {t : DT} {segs : List DT} (hb : σ b = some c) (hr : rdOK t = true) (h : DSW P Γ (del σ b) t T (upd emp b c) fun T s => WD P Γ f n Q k segs T (cup s (del σ b))) : DRun P Γ f n Q (t :: segs) k T σ := by
  with_unfolding_all exact ⟨upd emp b c, del σ b, disj_one σ b c, by rw [cup_one, upd_self σ hb], DS.mono (fun T s hw => hw.sound) (DS.of hr h)⟩
/-- A part that reads much and appends to one list. -/
theorem DRun.mixAt {t : DT} {segs : List DT} {es : Nat} {xs : List V} {q : V} (h : At σ es xs q) (hr : rdOK t = true)
    (h1 : ∀ sr sw, (∀ d, blk q ≠ some d → sr d = σ d) → At sw es xs q → (∀ ys q' s', AppAt sw es ys q q' s' → disj s' sr → AppAt σ es ys q q' (cup s' sr)) → DSW P Γ sr t T sw fun T s => WD P Γ f n Q k segs T (cup s sr)) : DRun P Γ f n Q (t :: segs) k T σ := by
  rcases h.2 with ⟨hx, es', hq⟩ | ⟨b, cap, hq, hb⟩
  · have hbq : ∀ d, blk q ≠ some d := fun d e => by rw [hq] at e; cases e
    refine DRun.mixN hr (h1 σ emp (fun _ _ => rfl) ⟨h.1, .inl ⟨hx, es', hq⟩⟩ fun ys q' s' hA hd => ?_)
    have hc : ∀ d c, s' d = some c → cup s' σ d = some c := fun d c hs => by unfold cup; rw [hs]
    refine ⟨hA.at_.mono hc, fun d hb => ?_, fun d h2 h3 => ?_⟩
    · refine .inr ?_
      rcases hd d with h4 | h4
      · have := hA.at_.has hb; rw [h4] at this; cases this
      · exact h4
    · have := hA.keep d h2 h3
      unfold cup; rw [this]; rfl
  · have hbq : blk q = some b := by rw [hq]; rfl
    refine DRun.mix hb hr (h1 (del σ b) (upd emp b (flat xs)) (fun d hd => del_ne _ (fun e => hd (by rw [hbq, e]))) ⟨h.1, .inr ⟨b, cap, hq, upd_same _ _ _⟩⟩ fun ys q' s' hA hd => ?_)
    have hc : ∀ d c, s' d = some c → cup s' (del σ b) d = some c := fun d c hs => by unfold cup; rw [hs]
    refine ⟨hA.at_.mono hc, fun d hb2 => ?_, fun d h2 h3 => ?_⟩
    · by_cases e : d = b
      · subst e; exact .inl hbq
      · refine .inr ?_
        rcases hd d with h4 | h4
        · have := hA.at_.has hb2; rw [h4] at this; cases this
        · rwa [del_ne _ e] at h4
    · have e : d ≠ b := fun e => h2 (by rw [hbq, e])
      have := hA.keep d h2 h3
      unfold cup; rw [this, upd_ne _ _ e, del_ne _ e]; rfl
end
/-- The refuter with its steps, beside what stood before. -/
structure RefA (σ0 : St) (vars : Int) (cls : List (List Int)) (st : List (Bool × List Int)) (rb : Nat) (q : V) (qs : List V) (σ : St) : Prop where
  box : σ rb = some (refC vars cls q)
  lla : LLA σ0 2 1 preS rowS st q qs σ
  nq : blk q ≠ some rb
  nqs : ∀ m ∈ qs, blk m ≠ some rb
  le : ∀ c x, σ0 c = some x → σ c = some x
  nrb : σ0 rb = none
def RefL (σ0 : St) (vars : Int) (cls : List (List Int)) (st : List (Bool × List Int)) (rb : Nat) (σ : St) : Prop := ∃ q qs, RefA σ0 vars cls st rb q qs σ
section
variable {vars vars2 : Int} {cls cls2 : List (List Int)} {st : List (Bool × List Int)} {vals : List Int} {rb b bv : Nat} {σ1 σs : St} {q : V} {qs : List V}
theorem RefA.mono (h : RefA σ0 vars cls st rb q qs σ1) (hle : ∀ c x, σ1 c = some x → σ c = some x) : RefA σ0 vars cls st rb q qs σ :=
  ⟨hle _ _ h.box, h.lla.mono hle, h.nq, h.nqs, fun c x hx => hle _ _ (h.le c x hx), h.nrb⟩
theorem RefL.mono (h : RefL σ0 vars cls st rb σ1) (hle : ∀ c x, σ1 c = some x → σ c = some x) : RefL σ0 vars cls st rb σ := by
  obtain ⟨q, qs, h⟩ := h; exact ⟨q, qs, h.mono hle⟩
theorem RefL.le (h : RefL σ0 vars cls st rb σ) : ∀ c x, σ0 c = some x → σ c = some x := by obtain ⟨q, qs, h⟩ := h; exact h.le
theorem RefL.push (h : RefL σ0 vars cls st rb σ1) (hs : StO σ1 vars2 cls2 vals b bv σ) (hl : (vals.length : Int) = vars2 + 1) :
    ∃ σs, RefL σs vars cls st rb σ ∧ StAt σs vars2 cls2 vals b bv ∧ ∀ c x, σ0 c = some x → σs c = some x := by
  classical
  obtain ⟨q, qs, h⟩ := h
  obtain ⟨h1, h2, h3, cap, h4, rfl⟩ := hs
  have hle : ∀ c x, σ1 c = some x → upd (upd σ1 bv (ints vals)) b (stC vars2 cls2 bv vals.length cap) c = some x := fun c x hx => by
    rw [upd_ne _ _ (fun e => by subst e; rw [h1] at hx; cases hx), upd_ne _ _ (fun e => by subst e; rw [h2] at hx; cases hx)]; exact hx
  have h' := h.mono hle
  have nb : ∀ c, σ1 c = none → ¬ (blk q = some c ∨ ∃ m ∈ qs, blk m = some c) := fun c hc hx => h.lla.blk_has hx hc
  have nrb : ¬ (blk q = some rb ∨ ∃ m ∈ qs, blk m = some rb) := fun hx => hx.elim h.nq (fun ⟨m, hm, e⟩ => h.nqs m hm e)
  have e1 : b ≠ rb := fun e => by subst e; rw [h.box] at h1; cases h1
  have e2 : bv ≠ rb := fun e => by subst e; rw [h.box] at h2; cases h2
  let σs : St := fun c => if (c = rb ∨ blk q = some c ∨ ∃ m ∈ qs, blk m = some c) then none else upd (upd σ1 bv (ints vals)) b (stC vars2 cls2 bv vals.length cap) c
  have hin : ∀ c, (c = rb ∨ blk q = some c ∨ ∃ m ∈ qs, blk m = some c) → σs c = none := fun c hc => if_pos hc
  have hout : ∀ c, ¬ (c = rb ∨ blk q = some c ∨ ∃ m ∈ qs, blk m = some c) → σs c = upd (upd σ1 bv (ints vals)) b (stC vars2 cls2 bv vals.length cap) c := fun c hc => if_neg hc
  have hA := h'.lla
  refine ⟨σs, ⟨q, qs, h'.box, ⟨hA.at_, ⟨hA.rows.len, hA.rows.at_, fun m hm c hc => hin c (.inr (.inr ⟨m, hm, hc⟩)), hA.rows.ap⟩, fun c hc => hin c (.inr (.inl hc)), hA.ap⟩, h.nq, h.nqs, fun c x hx => ?_, hin rb (.inl rfl)⟩, ⟨⟨cap, h4, ?_⟩, ?_, hl, h3⟩, fun c x hx => ?_⟩
  · by_cases hc : (c = rb ∨ blk q = some c ∨ ∃ m ∈ qs, blk m = some c)
    · rw [hin c hc] at hx; cases hx
    · rw [hout c hc] at hx; exact hx
  · rw [hout b (fun hx => hx.elim e1 (nb b h1)), upd_same]
  · rw [hout bv (fun hx => hx.elim e2 (nb bv h2)), upd_ne _ _ h3, upd_same]
  · have hc : ¬ (c = rb ∨ blk q = some c ∨ ∃ m ∈ qs, blk m = some c) := fun e => by
      rcases e with e | e | ⟨m, hm, e⟩
      · subst e; rw [h.nrb] at hx; cases hx
      · rw [h.lla.new c e] at hx; cases hx
      · rw [h.lla.rows.new m hm c e] at hx; cases hx
    rw [hout c hc]; exact h'.le c x hx
theorem RefL.less (h : RefL σs vars cls st rb σ) (hle : ∀ c x, σ0 c = some x → σs c = some x) : ∃ σ2, (∀ c x, σ2 c = some x → σ c = some x) ∧ RefL σ0 vars cls st rb σ2 := by
  obtain ⟨q, qs, h⟩ := h
  exact ⟨σ, fun _ _ h => h, q, qs, h.box, h.lla.less fun b hb => none_of hle b hb, h.nq, h.nqs, fun c x hx => h.le c x (hle c x hx), none_of hle rb h.nrb⟩
theorem StAt.ofL (h : StAt σs vars2 cls2 vals b bv) (hr : RefL σs vars cls st rb σ) : StAt σ vars2 cls2 vals b bv := h.mono hr.le
/-- One more step. -/
theorem RefA.app {s6 t : St} {c : List Int} {m q8 : V} (h : RefA σ0 vars cls st rb q qs σ1) (hle : ∀ b x, σ1 b = some x → s6 b = some x) (hm : At s6 1 (ints c) m) (hn : ∀ b, blk m = some b → σ1 b = none) (hP : AppAt s6 2 (els preS st qs ++ [.agg [.bool false, m]]) q q8 t) :
    t rb = some (refC vars cls q) ∧ RefL σ0 vars cls (st ++ [(false, c)]) rb (upd t rb (refC vars cls q8)) := by
  have h6 := h.mono hle
  have hmq : Apt m q := fun b hb e => h.lla.blk_has (.inl e) (hn b hb)
  have hms : ∀ m' ∈ qs, Apt m' m := fun m' hm' b hb e => h.lla.blk_has (.inr ⟨m', hm', hb⟩) (hn b e)
  have hmr : blk m ≠ some rb := fun e => by have := hn rb e; rw [h.box] at this; cases this
  have hq8 : blk q8 ≠ some rb := fun e => (hP.blk_ rb e).elim h.nq fun e2 => by rw [h6.box] at e2; cases e2
  have hL := h6.lla.push preS_ok (a := (false, c)) (m := m) (q' := q8) (t := t) h6.le hm (fun b hb => none_of h.le b (hn b hb)) hmq hms hP.at_ hP.blk_ hP.keep
  have hqs : ∀ m' ∈ qs ++ [m], blk m' ≠ some rb := fun m' hm' => by
    rcases List.mem_append.1 hm' with h1 | h1
    · exact h.nqs m' h1
    · rw [List.mem_singleton.1 h1]; exact hmr
  refine ⟨hP.get h6.box h.nq, q8, qs ++ [m], upd_same _ _ _, hL.to (fun b hb => upd_ne _ _ (fun e => hq8 (by rw [hb, e]))) (fun m' hm' b hb => upd_ne _ _ (fun e => hqs m' hm' (by rw [hb, e]))), hq8, hqs, fun d x hd => ?_, h.nrb⟩
  rw [upd_ne _ _ (fun e => by subst e; rw [h.nrb] at hd; cases hd)]
  exact hP.get (h6.le d x hd) (fun e => by rw [h6.lla.new d e] at hd; cases hd)
end
set_option maxHeartbeats 2000000 in
theorem goOnL_ok {vars : Int} {cls : List (List Int)} (hv : 0 ≤ vars ∧ vars ≤ 40) (hc : ClsOK vars cls) : ∀ (fu : Nat) (σ σ1 σ0 : St) (chosen : List Int) (st : List (List Int)) (vals : List Int) (b bv rb : Nat),
    zeros (setAll (zeroVals vars) chosen) < fu → chosen.length + zeros (setAll (zeroVals vars) chosen) ≤ 60 → (∀ x ∈ chosen, litOK vars x) → (vals.length : Int) = vars + 1 → tri vals → zero0 vals → alike vars cls vals (setAll (zeroVals vars) chosen) → st.length ≤ 200 → RefL σ0 vars cls (adds st) rb σ1 → StO σ1 vars cls vals b bv σ →
    ACalls Try.prog Γ 40 [.ptr rb 0, .ptr b 0, .isl false 1 (ints chosen)] σ fun r σ' => r = .int .i64 (refP vars cls fu chosen st).2 ∧ RefL σ0 vars cls (adds (refP vars cls fu chosen st).1) rb σ' := by
  intro fu
  induction fu with
  | zero => intro σ σ1 σ0 chosen st vals b bv rb h; omega
  | succ fu ihf =>
    intro σ σ1 σ0 chosen st vals b bv rb hz hcl hx hl ht h0 hal hst hr ho
    obtain ⟨k1, k2, k3⟩ := setAll_keeps (zeroVals_len (by omega)) (zeroVals_tri vars) (zero0_zero vars (by omega)) hx
    obtain ⟨p1, p2⟩ := prop_same hc hl k1 ht k2 h0 k3 hal
    obtain ⟨m1, m2, _⟩ := propGo_keeps hc (zeros vals + 1) vals [] hl ht
    obtain ⟨m3, m4, m5⟩ := propGo_keeps hc (zeros (setAll (zeroVals vars) chosen) + 1) (setAll (zeroVals vars) chosen) [] k1 k2
    have spx := (propGo_spec hc (zeros (setAll (zeroVals vars) chosen) + 1) (setAll (zeroVals vars) chosen) [] (by omega) k1 k2).1
    have hnx := fun x (hxl : litOK vars x) => alike_next (x := x) (by omega) hc k1 k2 hxl
    have hzx : ∀ x, litOK vars x → free (setAll (zeroVals vars) chosen) x → zeros (setAll (zeroVals vars) (chosen ++ [x])) + 1 = zeros (setAll (zeroVals vars) chosen) := fun x hx hfr => by rw [setAll_snoc]; exact zeros_set k1 k2 hx hfr
    have hsx : ∀ x, setAll (zeroVals vars) (chosen ++ [x]) = setT (setAll (zeroVals vars) chosen) x := fun x => setAll_snoc _ _ _
    generalize hS : refP vars cls (fu + 1) chosen st = S
    simp only [refP] at hS
    refine acalls_W c40_ok rfl ?_
    simp (disch := omega) only [c40, go_sem]
    refine SRun.callR (propagate_frz (ho.at hl) (by omega) hc ht) ⟨[], rfl, rfl⟩ rfl ?_
    have ho2 := ho.set (vals' := (propGo cls (zeros vals + 1) vals []).2.2) m1
    generalize upd σ bv (ints (propGo cls (zeros vals + 1) vals []).2.2) = σa at *
    obtain ⟨σs, hr1, hst1, hle⟩ := hr.push ho2 (by omega)
    clear ho ho2 hr
    have hz0 := propGo_zero0 hc (zeros vals + 1) vals [] h0
    generalize propGo cls (zeros vals + 1) vals [] = R1 at *
    obtain ⟨l1, a1, v1⟩ := R1
    generalize setAll (zeroVals vars) chosen = s at *
    generalize propGo cls (zeros s + 1) s [] = R2 at *
    obtain ⟨l2, a2, v2⟩ := R2
    dsimp only at *
    have back : ∀ st' s', RefL σs vars cls (adds st') rb s' → ∃ s2, (∀ c x, s2 c = some x → s' c = some x) ∧ RefL σ0 vars cls (adds st') rb s2 := fun st' s' h => h.less hle
    simp (disch := omega) only [go_sem]
    refine iteW_join (fun T s' => ∃ st', RefL σs vars cls (adds st') rb s' ∧ st'.length ≤ 200 ∧ finP chosen st' = S ∧ look T 0 = .ptr rb 0 ∧ look T 2 = .isl false 1 (ints chosen)) (fun k' key => ?_) ?_
    · first | refine iteW_dec (fun hq => ?_) (fun hq => ?_) | refine iteW_of (fun hq => ?_) (fun hq => ?_)
      · have hq2 := p1.1 hq
        obtain rfl := p2 hq
        have hd : decide (a2 ≥ 0) = false := decide_eq_false (by omega)
        rw [hd] at hS
        simp only [cond_false] at hS
        have sa1 := hst1.ofL hr1
        have hfz := findZ_get (vals := v1) (vars := vars) (by omega)
        have hin := findZ_in (v1.drop 1) 0
        have hvl : (v1.drop 1).length = v1.length - 1 := List.length_drop
        simp (disch := omega) only [go_sem]
        refine SRun.callR (open_ok sa1 (by omega)) ⟨[], rfl, rfl⟩ rfl ?_
        have hvr : 0 ≤ findZ (v1.drop 1) 0 + 1 ∧ findZ (v1.drop 1) 0 + 1 ≤ 41 := by omega
        clear hin
        generalize findZ (v1.drop 1) 0 + 1 = v at *
        have hneg : (0 : Int) - v = -v := by omega
        simp (disch := omega) only [go_sem]
        first | refine iteW_dec (fun h2 => ?_) (fun h2 => ?_) | refine iteW_of (fun h2 => ?_) (fun h2 => ?_)
        · have : (v == 0) = true := by simpa using h2
          rw [this] at hS
          simp only [cond_true] at hS
          simp (disch := omega) only [go_sem]
          obtain ⟨s2, q1, q2⟩ := back _ _ hr1
          refine W_retC c40_ok rfl (Conv.drop _ q1) ⟨?_, ?_⟩
          · rw [← hS]; simp only [look, ev, V.bool.injEq, V.int.injEq, V.str.injEq, V.tup.injEq, V.agg.injEq, V.isl.injEq, List.cons.injEq, true_and, and_true, Nat.reduceEqDiff, Nat.reduceAdd, Nat.reduceSub, Nat.reduceMul, Nat.reducePow, Nat.reduceDiv, Nat.reduceMod, Int.reduceToNat, Nat.reduceLeDiff, Nat.reduceLT, Int.reduceEq, Int.reduceLT, Int.reduceLE, Int.reduceGT, Int.reduceGE, Int.reduceNeg, Int.reduceSub, Int.reduceAdd, Int.reduceMul, Int.reducePow, ne_eq, reduceCtorEq, ↓reduceIte]
          · rw [← hS]; exact q2
        · have : (v == 0) = false := by simpa using h2
          rw [this] at hS
          simp only [cond_false] at hS
          obtain ⟨hvl2, _, hf1, hf2⟩ := hfz h2
          simp (disch := omega) only [hneg, go_sem]
          generalize hA : refP vars cls fu (chosen ++ [-v]) st = A at hS
          generalize hB : refP vars cls fu (chosen ++ [v]) A.1 = B at hS
          refine W_loopC (α := Nat × List (List Int) × St) (fun p => p.1 ≤ 2 ∧ RefL σs vars cls (adds p.2.1) rb p.2.2 ∧ p.2.1.length ≤ 200 ∧ (p.1 = 0 → p.2.1 = st) ∧ (p.1 = 1 → A.2 = 0 ∧ p.2.1 = A.1) ∧ (p.1 = 2 → A.2 = 0 ∧ B.2 = 0 ∧ p.2.1 = B.1)) (fun p => [(0, .ptr rb 0), (1, .ptr b 0), (2, .isl false 1 (ints chosen)), (31, .isl true 1 (ints [-v, v])), (32, .int .i64 2), (33, .int .i64 (p.1 : Nat))]) (fun p => p.2.2) (fun p => 2 - p.1) (0, st, _) ⟨by simp, hr1, hst, fun _ => rfl, fun h => by simp at h, fun h => by simp at h⟩ (by simp (disch := omega) only [subT, Int.natCast_add, Int.cast_ofNat_Int, go_sem] <;> (repeat' apply And.intro) <;> first | rfl | (congr 1; omega) | assumption) rfl ?_
          rintro ⟨i, st1, s1⟩ ⟨hi, hr2, hl2, q0, q1, q2⟩ ih
          dsimp only at hi hr2 hl2 q0 q1 q2
          have h2l : ([-v, v] : List Int).length = 2 := rfl
          simp (disch := omega) only [go_sem]
          first | refine iteW_dec (fun h3 => ?_) (fun h3 => ?_) | refine iteW_of (fun h3 => ?_) (fun h3 => ?_)
          · have hxi : litOK vars ([-v, v].getD i 0) ∧ free v1 ([-v, v].getD i 0) ∧ refP vars cls fu (chosen ++ [[-v, v].getD i 0]) st1 = (if i = 0 then A else B) := by
              have : i = 0 ∨ i = 1 := by omega
              rcases this with rfl | rfl
              · exact ⟨litOK_neg hvl2, hf2, by rw [q0 rfl]; exact hA⟩
              · exact ⟨hvl2, hf1, by rw [(q1 rfl).2]; exact hB⟩
            simp (disch := omega) only [h2l, go_sem]
            generalize [-v, v].getD i 0 = x at *
            obtain ⟨hx1, hx2, hx3⟩ := hxi
            have sa := hst1.ofL hr2
            refine SRun.callQ (stclone_ok sa (by omega)) ⟨[], rfl, rfl⟩ rfl ?_
            rintro r s2 hown
            obtain ⟨bc, bvc, rfl, hoc⟩ := hown.o
            simp (disch := omega) only [go_sem]
            refine SRun.callR (set_ok (x := x) (hoc.at (by omega)) ⟨by have := hx1.2; omega, by have := hx1.2; omega⟩ (by omega)) ⟨[], rfl, rfl⟩ rfl ?_
            have hoc2 := hoc.set (vals' := setT v1 x) (setT_length _ _)
            generalize upd s2 bvc (ints (setT v1 x)) = s3 at *
            simp (disch := omega) only [intsV, go_sem]
            refine SRun.callR (concat1_ok (e1 := true) (e2 := false) (e3 := true) (xs := chosen) (x := x) (by omega)) ⟨[], rfl, rfl⟩ rfl ?_
            simp (disch := omega) only [intsV, go_sem]
            have hsz : free s x := by
              refine ⟨?_, ?_⟩
              · cases e : isT s x with
                | false => rfl
                | true => have := spx x hx1 e; rw [hx2.1] at this; cases this
              · cases e : isT s (-x) with
                | false => rfl
                | true => have := spx (-x) (litOK_neg hx1) e; rw [hx2.2] at this; cases this
            have hzz := hzx x hx1 hsz
            have hlx : ∀ y ∈ chosen ++ [x], litOK vars y := fun y hy => (List.mem_append.1 hy).elim (hx y) fun h => by rw [List.mem_singleton.1 h]; exact hx1
            refine SRun.callQ (ihf _ s1 σs (chosen ++ [x]) st1 (setT v1 x) bc bvc rb (by omega) (by rw [List.length_append, List.length_singleton]; omega) hlx (by rw [setT_length]; omega) (tri_set m2 _) (zero0_set hx1 hz0) (by rw [hsx]; exact hnx x hx1 hq2 hx2 (by omega)) hl2 hr2 hoc2) ⟨[], rfl, rfl⟩ rfl ?_
            rintro _ s4 ⟨rfl, hr4⟩
            have hl4 := (refP_model (by omega) hc fu (chosen ++ [x]) st1 hlx (by omega)).2
            rw [hx3] at hr4 hl4 ⊢
            generalize hD : (if i = 0 then A else B) = D at *
            simp (disch := omega) only [go_sem]
            first | refine iteW_dec (fun h4 => ?_) (fun h4 => ?_) | refine iteW_of (fun h4 => ?_) (fun h4 => ?_)
            · simp (disch := omega) only [go_sem]
              obtain ⟨s5, r1, r2⟩ := back _ _ hr4
              have hSD : S = D := by
                have hd2 : (D.2 == 0) = false := by simpa using h4
                have : i = 0 ∨ i = 1 := by omega
                rcases this with rfl | rfl
                · rw [if_pos rfl] at hD; subst hD
                  rw [hd2] at hS; exact hS.symm
                · rw [if_neg (by omega)] at hD; subst hD
                  have : (A.2 == 0) = true := by simpa using (q1 rfl).1
                  rw [this] at hS
                  simp only [cond_true] at hS
                  rw [hd2] at hS; exact hS.symm
              subst hSD
              refine W_retC c40_ok rfl (Conv.drop _ r1) ⟨?_, r2⟩
              simp only [look, ev, V.bool.injEq, V.int.injEq, V.str.injEq, V.tup.injEq, V.agg.injEq, V.isl.injEq, List.cons.injEq, true_and, and_true, Nat.reduceEqDiff, Nat.reduceAdd, Nat.reduceSub, Nat.reduceMul, Nat.reducePow, Nat.reduceDiv, Nat.reduceMod, Int.reduceToNat, Nat.reduceLeDiff, Nat.reduceLT, Int.reduceEq, Int.reduceLT, Int.reduceLE, Int.reduceGT, Int.reduceGE, Int.reduceNeg, Int.reduceSub, Int.reduceAdd, Int.reduceMul, Int.reducePow, ne_eq, reduceCtorEq, ↓reduceIte]
            · simp (disch := omega) only [go_sem]
              refine ih (i + 1, D.1, s4) _ _ ⟨by simp only; omega, hr4, by simp only; omega, fun h => by simp at h, fun h => ?_, fun h => ?_⟩ (by simp only; omega) (by simp (disch := omega) only [subT, Int.natCast_add, Int.cast_ofNat_Int, go_sem] <;> (repeat' apply And.intro) <;> first | rfl | (congr 1; omega) | assumption) rfl
              · have : i = 0 := by simpa using h
                subst this
                rw [if_pos rfl] at hD; subst hD
                exact ⟨by omega, rfl⟩
              · have : i = 1 := by simp only at h; omega
                subst this
                rw [if_neg (by omega)] at hD; subst hD
                exact ⟨(q1 rfl).1, by omega, rfl⟩
          · obtain ⟨q3, q4, q5⟩ := q2 (by omega)
            simp (disch := omega) only [go_sem]
            refine key _ _ ⟨B.1, by rw [← q5]; exact hr2, by rw [← q5]; exact hl2, ?_, rfl, rfl⟩
            have z1 : (A.2 == 0) = true := by simpa using q3
            have z2 : (B.2 == 0) = true := by simpa using q4
            rw [z1] at hS
            simp only [cond_true] at hS
            rw [z2] at hS
            exact hS
      · simp (disch := omega) only [go_sem]
        refine key _ _ ⟨st, hr1, hst, ?_, rfl, rfl⟩
        have hd : decide (a2 ≥ 0) = true := decide_eq_true (by omega)
        rw [hd] at hS
        exact hS
    · rintro T s' ⟨st', ⟨q, qs, hA⟩, hst2, hfin, t0, t2⟩
      have g := hA.box
      have hel : (els preS (adds st') qs).length = st'.length := by rw [els_len hA.lla.rows.len, adds_len]
      have hcl2 : chosen.length ≤ 60 := by omega
      simp (disch := omega) only [t0, t2, g, refC, stepW_len_at hA.lla.at_, hel, go_sem]
      have out : (decide (st'.length = 200) || decide (12 < chosen.length)) = true → S = (st', 7) := fun h => by
        rw [← hfin]; unfold finP; rw [h]; rfl
      have fin2 : (decide (st'.length = 200) || decide (12 < chosen.length)) = false → S = (st' ++ [negC chosen], 0) := fun h => by
        rw [← hfin]; unfold finP; rw [h]; rfl
      obtain ⟨s5, r1, r2⟩ := back st' s' ⟨q, qs, hA⟩
      first | refine guardW_dec (fun h5 => ?_) (fun h5 => ?_) | refine guardW_by (fun h5 => ?_) (fun h5 => ?_)
      · simp (disch := omega) only [t0, t2, go_sem]
        have hS2 := out (by rw [decide_eq_true (by omega), Bool.true_or])
        subst hS2
        refine W_retC c40_ok rfl (Conv.drop _ r1) ⟨?_, r2⟩
        simp only [look, ev, V.bool.injEq, V.int.injEq, V.str.injEq, V.tup.injEq, V.agg.injEq, V.isl.injEq, List.cons.injEq, true_and, and_true, Nat.reduceEqDiff, Nat.reduceAdd, Nat.reduceSub, Nat.reduceMul, Nat.reducePow, Nat.reduceDiv, Nat.reduceMod, Int.reduceToNat, Nat.reduceLeDiff, Nat.reduceLT, Int.reduceEq, Int.reduceLT, Int.reduceLE, Int.reduceGT, Int.reduceGE, Int.reduceNeg, Int.reduceSub, Int.reduceAdd, Int.reduceMul, Int.reducePow, ne_eq, reduceCtorEq, ↓reduceIte]
      · simp (disch := omega) only [t0, t2, go_sem]
        first | refine iteW_dec (fun h6 => ?_) (fun h6 => ?_) | refine iteW_of (fun h6 => ?_) (fun h6 => ?_)
        · simp (disch := omega) only [t0, t2, go_sem]
          have hS2 := out (by rw [decide_eq_true (by omega : 12 < chosen.length), Bool.or_true])
          subst hS2
          refine W_retC c40_ok rfl (Conv.drop _ r1) ⟨?_, r2⟩
          simp only [look, ev, V.bool.injEq, V.int.injEq, V.str.injEq, V.tup.injEq, V.agg.injEq, V.isl.injEq, List.cons.injEq, true_and, and_true, Nat.reduceEqDiff, Nat.reduceAdd, Nat.reduceSub, Nat.reduceMul, Nat.reducePow, Nat.reduceDiv, Nat.reduceMod, Int.reduceToNat, Nat.reduceLeDiff, Nat.reduceLT, Int.reduceEq, Int.reduceLT, Int.reduceLE, Int.reduceGT, Int.reduceGE, Int.reduceNeg, Int.reduceSub, Int.reduceAdd, Int.reduceMul, Int.reducePow, ne_eq, reduceCtorEq, ↓reduceIte]
        · simp (disch := omega) only [t0, t2, go_sem]
          have hS2 := fin2 (by rw [decide_eq_false (by omega : ¬ 12 < chosen.length), decide_eq_false (by omega)]; rfl)
          subst hS2
          refine SRun.allocR ?_
          intro b14 h14
          simp (disch := omega) only [t0, t2, go_sem]
          refine W_loopC (α := Nat × V × St) (fun p => p.1 ≤ chosen.length ∧ OwnL (upd s' b14 [.bool false, p.2.1]) 1 (ints (negC (chosen.take p.1))) p.2.1 p.2.2) (fun p => [(0, .ptr rb 0), (14, .ptr b14 0), (65, .isl false 1 (ints chosen)), (66, .int .i64 chosen.length), (67, .int .i64 (p.1 : Nat))]) (fun p => p.2.2) (fun p => chosen.length - p.1) (0, _, _) ⟨by simp, OwnL.nil 1 0⟩ (by simp (disch := omega) only [subT, Int.natCast_add, Int.cast_ofNat_Int, t0, go_sem] <;> (repeat' apply And.intro) <;> first | rfl | (congr 1; omega) | assumption) rfl ?_
          rintro ⟨i, qc, s6⟩ ⟨hi, ho6⟩ ih
          dsimp only at hi ho6
          have hlen6 : (negC (chosen.take i)).length = i := by rw [negC_len, List.length_take]; omega
          have g14 := ho6.get (upd_same _ b14 _)
          simp (disch := omega) only [go_sem]
          first | refine iteW_dec (fun h7 => ?_) (fun h7 => ?_) | refine iteW_of (fun h7 => ?_) (fun h7 => ?_)
          · have hxm := hx _ (getD_mem 0 (by omega : i < chosen.length))
            have hneg : (0 : Int) - chosen.getD i 0 = - chosen.getD i 0 := by omega
            have hnx2 := hxm.2
            simp (disch := omega) only [g14, hneg, go_sem]
            refine SRun.appL ho6 rfl (neg1_ok _) (by rw [ints_len, hlen6]; simp only [List.length_singleton]; omega) ?_
            intro q7 s7 ho7
            have hap : ints (negC (chosen.take i)) ++ [V.int .i64 (-chosen.getD i 0)] = ints (negC (chosen.take (i + 1))) := by
              rw [take_succ 0 (by omega)]; simp [ints, negC]
            rw [hap] at ho7
            have g15 := ho7.get (upd_same _ b14 _)
            have ho8 := ho7.upd (c' := [.bool false, q7]) (upd_same _ b14 _)
            rw [upd_upd] at ho8
            simp (disch := omega) only [g15, ho7.one, ho7.cells, go_sem]
            refine ih (i + 1, q7, _) _ _ ⟨by simp only; omega, ho8⟩ (by simp only; omega) (by simp (disch := omega) only [subT, Int.natCast_add, Int.cast_ofNat_Int, go_sem] <;> (repeat' apply And.intro) <;> first | rfl | (congr 1; omega) | assumption) rfl
          · obtain rfl : i = chosen.length := by omega
            rw [List.take_length] at ho6
            obtain ⟨hm, hmn⟩ := ho6.atQ
            have n14 : b14 ≠ rb := fun e => by subst e; rw [g] at h14; cases h14
            have hq14 : blk q ≠ some b14 := fun e => hA.lla.blk_has (.inl e) h14
            have hext : ∀ d x, s' d = some x → s6 d = some x := fun d x hd => ho6.get (by rw [upd_ne _ _ (fun e => by subst e; rw [h14] at hd; cases hd)]; exact hd)
            have h6 := hA.mono hext
            have hone := ho6.one
            simp (disch := omega) only [go_sem]
            rw [W_draw]
            refine DRun.start (DRun.mixAt h6.lla.at_ rfl fun sr sw hsr hat hup => ?_)
            have r1 : sr rb = some (refC vars cls q) := by rw [hsr rb h6.nq]; exact h6.box
            have r14 : sr b14 = some [.bool false, qc] := by rw [hsr b14 hq14]; exact g14
            simp (disch := omega) only [r1, r14, refC, hone, go_sem]
            have hy2 : ∀ y ∈ [V.agg [.bool false, qc]], y.cells.length = 2 ∧ ∀ c ∈ y.cells, c.one = true := by
              intro y hy
              rw [List.mem_singleton.1 hy]
              refine ⟨rfl, fun c hc => ?_⟩
              simp only [V.cells, List.mem_cons, List.not_mem_nil, or_false] at hc
              rcases hc with rfl | rfl
              · rfl
              · exact hone
            refine DS.wrQ (WrF.appAt (ys := [.agg [.bool false, qc]]) hat (by exact src_isl) rfl hy2 (by rw [hel]; simp only [List.length_singleton]; omega)) rfl ?_
            intro q8 s2 hA8 hd8
            have hP := hup _ _ _ hA8 hd8
            obtain ⟨gt, hRL⟩ := hA.app hext hm (fun d hd => (upd_none.1 (hmn d hd)).2) hP
            have hq81 := hP.at_.one
            have hq8c := hP.at_.cells
            simp (disch := omega) only [gt, refC, hq81, hq8c, go_sem]
            have hfinal : RefL σs vars cls (adds (st' ++ [negC chosen])) rb (upd (cup s2 sr) rb (refC vars cls q8)) := by rw [adds_app]; exact hRL
            obtain ⟨s9, r3, r4⟩ := hfinal.less hle
            exact W_retC c40_ok rfl (Conv.drop _ r3) ⟨rfl, r4⟩
end Go.Proofs.Ytdenfjbhkdhlkaa.Lg
