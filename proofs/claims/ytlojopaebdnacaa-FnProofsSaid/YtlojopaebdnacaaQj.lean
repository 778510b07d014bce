/- Refutations, of the program and of the reference. -/
import Derived.Test.YtlojopaebdnacaaQe
import Derived.Test.YtlojopaebdnacaaOj
import Derived.Test.YtlojopaebdnacaaXd
set_option linter.unusedSimpArgs false
set_option linter.unusedVariables false
namespace Go.Proofs.Ytlojopaebdnacaa.Lg
open Go
attribute [local irreducible] SRun DS DRun
variable {Γ : St} {σ σ0 : St}
/-- What is said of a refutation. -/
def refA (vars : Int) (cls : List (List Int)) : List (Bool × List Int) × Int := bif (refP vars cls (vars.toNat + 2) [] []).2 == 0 then (adds (refP vars cls (vars.toNat + 2) [] []).1, 0) else ([], (refP vars cls (vars.toNat + 2) [] []).2)
theorem zeros_zeroVals {vars : Int} (hv : 0 ≤ vars) : (zeros (zeroVals vars) : Int) ≤ vars := by
  have h1 : zeros (zeroVals vars) ≤ ((zeroVals vars).drop 1).length := List.count_le_length
  have h2 := zeroVals_len hv
  rw [List.length_drop] at h1; omega
theorem refP_top {vars : Int} {cls : List (List Int)} (hv : 0 ≤ vars) (hc : ClsOK vars cls) : ((refP vars cls (vars.toNat + 2) [] []).2 = 0 ∨ (refP vars cls (vars.toNat + 2) [] []).2 = 7 ∨ ((refP vars cls (vars.toNat + 2) [] []).2 = 6 ∧ modelP vars cls ≠ none)) ∧ (refP vars cls (vars.toNat + 2) [] []).1.length ≤ 200 := by
  have hz := zeros_zeroVals hv
  obtain ⟨h1, h2⟩ := refP_model hv hc (vars.toNat + 2) [] [] (fun x hx => by cases hx) (by show zeros (zeroVals vars) < _; omega)
  exact ⟨h1, by simpa using h2⟩
theorem Refutation_ok {vars : Int} {cls : List (List Int)} (hb : cnfB vars cls = true) (hv : 1 ≤ vars) :
    Ret Try.prog Γ 39 [cnfV vars cls] σ (.tup [.isl false 2 (stepsV (refA vars cls).1), .int .i64 (refA vars cls).2]) σ := by
  obtain ⟨hc, hv0, hv40, hcl⟩ := clsOK_of hb
  have hz := zeros_zeroVals (vars := vars) (by omega)
  have ht := refP_top hv0 hc
  have hA := refA.eq_1 vars cls
  refine ret_of c39_ok rfl ?_
  simp (disch := omega) only [c39, cnfV, go_sem]
  refine SRun.boxR (by simp [ev, look, V.cells, V.one]) ?_
  intro b1 hb1
  simp (disch := omega) only [go_sem]
  refine SRun.callR (isCnf_ok hc.1) ⟨[], rfl, rfl⟩ rfl ?_
  simp (disch := omega) only [hb, go_sem]
  refine SRun.boxR (by simp [ev, look, V.cells, V.one]) ?_
  intro b2 hb2
  have hle2 : ∀ z c x, σ c = some x → upd (upd σ b1 [.int .i64 vars, .isl false 1 (clsV cls)]) b2 z c = some x := fun z c x h => le_upd hb2 _ _ (le_upd hb1 _ _ h)
  have g1 : ∀ z, upd (upd σ b1 [.int .i64 vars, .isl false 1 (clsV cls)]) b2 z b1 = some [.int .i64 vars, .isl false 1 (clsV cls)] := fun z => le_upd hb2 _ _ (upd_same _ _ _)
  generalize upd σ b1 [.int .i64 vars, .isl false 1 (clsV cls)] = s1 at *
  simp (disch := omega) only [g1, go_sem]
  refine SRun.callQ (newState_ok (vars := vars) (cls := cls) (by omega)) ⟨[], rfl, rfl⟩ rfl ?_
  intro r s2 hr
  obtain ⟨b, bv, rfl, ho⟩ := hr.o
  simp (disch := omega) only [go_sem]
  have hro : RefO s1 vars cls (adds []) b2 (upd s1 b2 [.int .i64 vars, .isl false 1 (clsV cls), .isl true 0 []]) := ⟨.isl true 0 [], OwnL.nil 2 0⟩
  refine SRun.callQ (ACalls.pre (args := [.ptr b2 0, .ptr b 0, .isl true 0 []]) (args' := [.ptr b2 0, .ptr b 0, .isl false 1 (ints [])]) (fun _ _ h => h) rfl (frzL_get (by exact ⟨.refl _, .refl _, .isl0 _ _ _ _ (fun _ => rfl), trivial⟩)) (goOn_ok (by omega) hc (vars.toNat + 2) _ _ s1 [] [] (zeroVals vars) b bv b2 (by show zeros (zeroVals vars) < _; omega) (by show 0 + zeros (zeroVals vars) ≤ 60; omega) (fun x hx => by cases hx) (zeroVals_len hv0) (zeroVals_tri vars) (zero0_zero vars hv0) (fun w _ => Iff.rfl) (by simp) hro ho)) ⟨[], rfl, rfl⟩ rfl ?_
  rintro _ s3 ⟨rfl, q, ho3⟩
  generalize refP vars cls (vars.toNat + 2) [] [] = R at *
  have g3 := ho3.get (upd_same _ b2 _)
  by_cases h0 : R.2 = 0
  · rw [h0] at hA
    simp only [beq_self_eq_true, cond_true] at hA
    simp (disch := omega) only [h0, g3, refC, go_sem]
    rw [hA]
    have hfz : Frz s3 σ q (.isl false 2 (stepsV (adds R.1))) := ho3.frz (fun _ _ => rfl) fun d hd => by
      cases e : σ d with
      | none => rfl
      | some c => rw [hle2 _ d c e] at hd; cases hd
    refine W_retC c39_ok (r := .tup [q, .int .i64 0]) (r' := .tup [.isl false 2 (stepsV (adds R.1)), .int .i64 0]) rfl ⟨fun c x h => ho3.le c x (hle2 _ c x h), frz_tup (by exact ⟨hfz, .refl _, trivial⟩)⟩ ⟨rfl, rfl⟩
  · have h0' : (R.2 == 0) = false := by simpa using h0
    have h0d : (decide ¬ R.2 = 0) = true := decide_eq_true h0
    rw [h0'] at hA
    simp only [cond_false] at hA
    simp (disch := omega) only [h0d, go_sem]
    rw [hA]
    exact W_retC c39_ok (r := .tup [.isl true 0 [], .int .i64 R.2]) (r' := .tup [.isl false 2 (stepsV []), .int .i64 R.2]) rfl ⟨fun c x h => ho3.le c x (hle2 _ c x h), frz_tup (by exact ⟨.isl0 _ _ _ _ (fun _ => rfl), .refl _, trivial⟩)⟩ ⟨rfl, rfl⟩
theorem specRefutation_ok {vars : Int} {cls : List (List Int)} (hb : cnfB vars cls = true) (hv : 1 ≤ vars) :
    Ret Try.prog Γ 40 [cnfV vars cls] σ (.tup [.isl false 2 (stepsV (refA vars cls).1), .int .i64 (refA vars cls).2]) σ := by
  obtain ⟨hc, hv0, hv40, hcl⟩ := clsOK_of hb
  have hz := zeros_zeroVals (vars := vars) (by omega)
  have ht := refP_top hv0 hc
  have hA := refA.eq_1 vars cls
  refine ret_of c40_ok rfl ?_
  simp (disch := omega) only [c40, cnfV, go_sem]
  refine SRun.boxR (by simp [ev, look, V.cells, V.one]) ?_
  intro b1 hb1
  simp (disch := omega) only [go_sem]
  refine SRun.callR (cnfOK_ok hb) ⟨[], rfl, rfl⟩ rfl ?_
  simp (disch := omega) only [go_sem]
  refine SRun.boxR (by simp [ev, look, V.cells, V.one]) ?_
  intro b2 hb2
  have hle2 : ∀ z c x, σ c = some x → upd (upd σ b1 [.int .i64 vars, .isl false 1 (clsV cls)]) b2 z c = some x := fun z c x h => le_upd hb2 _ _ (le_upd hb1 _ _ h)
  generalize upd σ b1 [.int .i64 vars, .isl false 1 (clsV cls)] = s1 at *
  simp (disch := omega) only [go_sem]
  have hro : BoxO s1 (refC4 vars cls false) (adds []) b2 (upd s1 b2 [.int .i64 vars, .isl false 1 (clsV cls), .isl true 0 [], .bool false]) := ⟨.isl true 0 [], OwnL.nil 2 0⟩
  refine SRun.callQ (from_ok (by omega) hc (vars.toNat + 2) _ s1 [] [] (.isl true 1 []) b2 (by show zeros (zeroVals vars) < _; omega) (by show 0 + zeros (zeroVals vars) ≤ 60; omega) (fun x hx => by cases hx) (by simp) hro (.inl ⟨true, rfl⟩)) ⟨[], rfl, rfl⟩ rfl ?_
  rintro _ s3 ⟨rfl, q, ho3⟩
  generalize refP vars cls (vars.toNat + 2) [] [] = R at *
  have g3 := ho3.get (upd_same _ b2 _)
  by_cases h0 : R.2 = 0
  · rw [h0] at hA g3 ho3
    simp only [beq_self_eq_true, cond_true] at hA
    have h07 : ((0 : Int) == 7) = false := rfl
    rw [h07] at g3 ho3
    have h0b : (R.2 == 0) = true := by simpa using h0
    simp (disch := omega) only [h0b, g3, refC4, go_sem]
    rw [hA]
    have hfz : Frz s3 σ q (.isl false 2 (stepsV (adds R.1))) := ho3.frz (fun _ _ => rfl) fun d hd => by
      cases e : σ d with
      | none => rfl
      | some c => rw [hle2 _ d c e] at hd; cases hd
    refine W_retC c40_ok (r := .tup [q, .int .i64 0]) (r' := .tup [.isl false 2 (stepsV (adds R.1)), .int .i64 0]) rfl ⟨fun c x h => ho3.le c x (hle2 _ c x h), frz_tup (by exact ⟨hfz, .refl _, trivial⟩)⟩ ⟨rfl, rfl⟩
  · have h0' : (R.2 == 0) = false := by simpa using h0
    rw [h0'] at hA ⊢
    simp only [cond_false] at hA
    rw [hA]
    simp (disch := omega) only [go_sem]
    by_cases h7 : R.2 = 7
    · have h77 : (R.2 == 7) = true := by simpa using h7
      rw [h77] at g3 ho3
      simp (disch := omega) only [g3, refC4, go_sem]
      rw [h7]
      exact W_retC c40_ok (r := .tup [.isl true 2 [], .int .i64 7]) (r' := .tup [.isl false 2 (stepsV []), .int .i64 7]) rfl ⟨fun c x h => ho3.le c x (hle2 _ c x h), frz_tup (by exact ⟨.isl0 _ _ _ _ (fun _ => rfl), .refl _, trivial⟩)⟩ ⟨rfl, rfl⟩
    · have h77 : (R.2 == 7) = false := by simpa using h7
      rw [h77] at g3 ho3
      have h6 : R.2 = 6 := by rcases ht.1 with h | h | h <;> first | exact absurd h h0 | exact absurd h h7 | exact h.1
      simp (disch := omega) only [g3, refC4, go_sem]
      rw [h6]
      exact W_retC c40_ok (r := .tup [.isl true 2 [], .int .i64 6]) (r' := .tup [.isl false 2 (stepsV []), .int .i64 6]) rfl ⟨fun c x h => ho3.le c x (hle2 _ c x h), frz_tup (by exact ⟨.isl0 _ _ _ _ (fun _ => rfl), .refl _, trivial⟩)⟩ ⟨rfl, rfl⟩
end Go.Proofs.Ytlojopaebdnacaa.Lg
/- Rows in which a part is moved in place: append where there is room, and slices.Delete of one. -/
set_option linter.unusedSimpArgs false
set_option linter.unusedVariables false
namespace Go.Proofs.Ytlojopaebdnacaa.Lg
open Go
attribute [local irreducible] SRun DS DRun
variable {Γ : St} {σ σ0 : St}
/-- Something is appended where there is room: what lies behind stays. -/
theorem InsOK.appIn {P : Program} {es by_ : Nat} {s x : Opd} {T : Ts} {σ : St} {G : V → St → Prop} {b len cap m : Nat} {cs new : List V} (hsv : ev Γ T s = .msl b es 0 len cap) (hcs : σ b = some cs) (hsrc : srcV σ es (ev Γ T x) = some (new, m)) (hroom : len + m ≤ cap) (hfit : (len + m) * es ≤ cs.length)
    (hG : G (.msl b es 0 (len + m) cap) (upd σ b (cs.take (len * es) ++ new ++ cs.drop ((len + m) * es)))) : InsOK P Γ (.app es by_ s x) T σ G := by
  intro o hc τ w a hpre
  obtain ⟨c, u, v, t1, t2, e, z, ho, hcal, hargs, ht1, hu1, ht2, hu2, hese, hbye, hes, hby, hby2, hz, hzl, hs, hx⟩ := inv_app hc
  obtain ⟨it, zv, hit, hiz, hzr⟩ := zero_ok (w := w) (O := own (cup σ τ)) hz
  obtain rfl : es = it.size := hese.trans (by simp [Program.cellsOf, hit])
  obtain rfl : by_ = it.bytes := hbye.trans (by simp [Program.bytesOf, hit])
  have r1 := ev_rep hpre hs
  rw [hsv] at r1
  have r2 := ev_rep hpre hx
  obtain ⟨hnl, hlen, vs, hfc, hvl, hvr⟩ := src_ok hpre.sim r2 hsrc
  have hats : ∃ ats', c.argTypes = #[t1, t2] ++ ats' := by
    refine ⟨c.argTypes.extract 2 c.argTypes.size, ?_⟩
    apply Array.ext'
    rw [← Array.getElem?_toList] at ht1 ht2
    simp only [Array.toList_append, Array.toList_extract]
    cases hl : c.argTypes.toList with
    | nil => rw [hl] at ht1; simp at ht1
    | cons p q =>
      cases q with
      | nil => rw [hl] at ht2; simp at ht2
      | cons p2 q2 =>
        rw [hl] at ht1 ht2
        simp at ht1 ht2
        subst ht1 ht2
        have hz2 : c.argTypes.size = (p :: p2 :: q2).length := by rw [← hl]; simp
        simp [List.extract, hz2]
  have happ : ∀ (av : Array Value), Builtin.append_ c.argTypes o.type av = Builtin.append_ #[t1, t2] o.type av := by
    intro av
    unfold Builtin.append_
    rw [ht1, ht2]
    simp
  have hexec : ∀ (val : Value) (w' : World), (Builtin.append_ #[t1, t2] o.type #[a.eval u, a.eval v]).run P w = .ok val w' → (execOp a.eval o).run P w = .ok (.value val) w' := by
    intro val w' h
    rw [← happ] at h
    simp [execOp, ho, resolve, hcal, hargs, invoke, builtin, h]
  obtain ⟨arr, e', fz, hev, g1, g2, g3⟩ := rep_msl_inv r1
  rw [Nat.zero_add] at g2
  obtain ⟨arr0, e0, fz0, k1, k2, k3, k4⟩ := hpre.sim b cs (cup_of_some hcs)
  rw [g1] at k1; injection k1 with k1; injection k1 with k1 k1' k1''
  subst k1 k1' k1''
  have hmul : (len + m) * it.size = len * it.size + m * it.size := Nat.add_mul _ _ _
  have hvsl : vs.toList.length = m * it.size := by rw [Array.length_toList, ← hvl, hnl]
  have hfit2 : len * it.size + vs.toList.length ≤ arr.size := by omega
  obtain ⟨w', arr', q1, q2, q3, q4, q5, q6, q7, q8⟩ := run_storeCells_raw (P := P) (b := b) (off := len * it.size) vs.toList 0 arr w g1 (by omega) (fun u hu => by
    obtain ⟨i, hi, rfl⟩ := List.getElem_of_mem hu
    have hi2 : i < vs.size := by simpa using hi
    have hy : new[i]? = some new[i] := by simp
    obtain ⟨y1, y2⟩ := hvr i _ hy
    have := y2.oneCell y1
    simpa [Array.getD_eq_getD_getElem?, hi2] using this) k2
  have hrun := run_room (P := P) (w := w) (w' := w') (ty := o.type) (b := b) (off := 0) (sLen := len) (sCap := cap) hu1 hu2 hit hlen hfc hroom (by rw [Nat.zero_add]; exact q1)
  unfold Oper.wp
  rw [hexec _ _ (by rw [hev]; exact hrun)]
  have hl2 : (cs.take (len * it.size)).length = len * it.size := by simp; omega
  obtain ⟨s1, s2⟩ := Sim.write (cs' := cs.take (len * it.size) ++ new ++ cs.drop ((len + m) * it.size)) hpre.sim (cup_of_some hcs) g1 q4 q2 q5 q3 (by simp only [List.length_append, hl2, List.length_drop]; omega) (fun i y hy => by
    rcases Nat.lt_or_ge i (len * it.size) with h1 | h1
    · rw [List.append_assoc, List.getElem?_append_left (by omega), List.getElem?_take, if_pos h1] at hy
      rw [q6 i (by omega)]
      exact k4 i y hy
    · rcases Nat.lt_or_ge i (len * it.size + m * it.size) with h2 | h2
      · rw [List.getElem?_append_left (by rw [List.length_append]; omega), List.getElem?_append_right (by omega), hl2] at hy
        have h3 := q7 (i - len * it.size) (by omega)
        rw [show len * it.size + 0 + (i - len * it.size) = i by omega] at h3
        rw [h3]
        have := hvr _ y hy
        simpa [List.getD, Array.getD_eq_getD_getElem?] using this
      · have hl3 : (cs.take (len * it.size) ++ new).length = (len + m) * it.size := by rw [List.length_append]; omega
        rw [List.getElem?_append_right (by omega), hl3, List.getElem?_drop, show (len + m) * it.size + (i - (len + m) * it.size) = i by omega] at hy
        rw [q6 i (by omega)]
        exact k4 i y hy) q8
  rw [← cup_upd] at s1 s2
  refine ⟨_, _, _, rfl, hG, disj_upd hpre.dj (hpre.dj.other hcs), s1, .msl _ _ _ _ _ arr' _ _ q2 (by omega) hroom, s2⟩
section
variable {P : Program} {f : FuncId} {n : Nat} {Q : V → St → Prop} {k : List It} {T : Ts}
theorem DRun.appIn {d : Option Nat} {segs : List DT} {es by_ : Nat} {s x : Opd} {b len cap m : Nat} {cs new : List V} (hsv : ev Γ T s = .msl b es 0 len cap) (hcs : σ b = some cs) (hsrc : srcV σ es (ev Γ T x) = some (new, m)) (hroom : len + m ≤ cap) (hfit : (len + m) * es ≤ cs.length)
    (hk : WD P Γ f n Q k segs (putT T d (.msl b es 0 (len + m) cap)) (upd σ b (cs.take (len * es) ++ new ++ cs.drop ((len + m) * es)))) : DRun P Γ f n Q (.wr ⟨d, none, .app es by_ s x⟩ .nil .no :: segs) k T σ :=
  DRun.wr1 (G := fun y s' => y = .msl b es 0 (len + m) cap ∧ s' = upd σ b (cs.take (len * es) ++ new ++ cs.drop ((len + m) * es))) (WrF.of fun T' hT => InsOK.appIn (by rw [hT s (by simp [I.opds])]; exact hsv) hcs (by rw [hT x (by simp [I.opds])]; exact hsrc) hroom hfit ⟨rfl, rfl⟩) fun y s' ⟨e1, e2⟩ => by subst e1 e2; exact hk.sound
end
theorem deleteL_ok {xs : List V} {b cap i : Nat} (hb : σ b = some xs) (hc : xs.length ≤ cap) (hi : i < xs.length) (hl : xs.length ≤ 1000000) (h1 : ∀ x ∈ xs, x.cells = [x] ∧ x.one = true) :
    Ret Try.prog Γ 121 [.msl b 1 0 xs.length cap, .int .i64 i, .int .i64 (i + 1)] σ (.msl b 1 0 (xs.length - 1) cap) (upd σ b (xs.take i ++ xs.drop (i + 1) ++ [.isl true 0 []])) := by
  have hlt : i + (xs.length - (i + 1)) = xs.length - 1 := by omega
  have hx22 : V.msl b 1 (if (cap : Int) = 0 then 0 else 0) ((i : Int) - 0).toNat ((cap : Int) - 0).toNat = .msl b 1 0 i cap := by
    have e1 : (if (cap : Int) = 0 then 0 else 0 : Nat) = 0 := by split <;> rfl
    rw [e1, show ((i : Int) - 0).toNat = i by omega, show ((cap : Int) - 0).toNat = cap by omega]
  have hsrc : srcV σ 1 (.msl b 1 (if (cap : Int) = (i : Int) + 1 then 0 else ((i : Int) + 1).toNat) ((xs.length : Int) - ((i : Int) + 1)).toNat ((cap : Int) - ((i : Int) + 1)).toNat) = some (xs.drop (i + 1), xs.length - (i + 1)) := by
    have e2 : ((xs.length : Int) - ((i : Int) + 1)).toNat = xs.length - (i + 1) := by omega
    rw [e2]
    by_cases hcap : (cap : Int) = (i : Int) + 1
    · have e3 : xs.length - (i + 1) = 0 := by omega
      have e4 : xs.drop (i + 1) = [] := List.drop_of_length_le (by omega)
      rw [if_pos hcap, e3, e4]
      simp [srcV, hb]
    · rw [if_neg hcap, show ((i : Int) + 1).toNat = i + 1 by omega]
      have h5 : i + 1 + (xs.length - (i + 1)) * 1 ≤ xs.length := by omega
      simp only [srcV, if_true, hb, if_pos h5, Option.some.injEq, Prod.mk.injEq, and_true]
      rw [List.take_of_length_le (by rw [List.length_drop]; omega)]
  refine ret_of c121_ok rfl ?_
  simp (disch := omega) only [c121, go_sem]
  refine W_drawW ?_
  simp (disch := omega) only [go_sem]
  refine DRun.appIn (b := b) (len := i) (cap := cap) (m := xs.length - (i + 1)) (cs := xs) (new := xs.drop (i + 1)) hx22 hb hsrc (by omega) (by omega) ?_
  rw [hlt, Nat.mul_one, Nat.mul_one]
  generalize hcs : xs.take i ++ xs.drop (i + 1) ++ xs.drop (xs.length - 1) = cs
  have hcl : cs.length = xs.length := by rw [← hcs]; simp; omega
  have e5 : ((xs.length - 1 : Nat) : Int) = (xs.length : Int) - 1 := by omega
  have hx31 : V.msl b 1 (if (cap : Int) = (xs.length : Int) - 1 then 0 else ((xs.length : Int) - 1).toNat) ((xs.length : Int) - ((xs.length : Int) - 1)).toNat ((cap : Int) - ((xs.length : Int) - 1)).toNat = .msl b 1 (xs.length - 1) 1 ((cap : Int) - ((xs.length : Int) - 1)).toNat := by
    rw [if_neg (by omega), show ((xs.length : Int) - 1).toNat = xs.length - 1 by omega, show ((xs.length : Int) - ((xs.length : Int) - 1)).toNat = 1 by omega]
  simp (disch := omega) only [e5, go_sem]
  refine SRun.clearR (b := b) (off := xs.length - 1) (len := 1) (cs := cs) hx31 (upd_same _ _ _) (by omega) rfl ?_
  simp (disch := omega) only [go_sem]
  refine W_retR c121_ok rfl ⟨rfl, ?_⟩
  have e6 : cs.take (xs.length - 1) = xs.take i ++ xs.drop (i + 1) := by
    rw [← hcs, List.take_append_of_le_length (by simp; omega), List.take_of_length_le (by simp; omega)]
  have e7 : cs.drop (xs.length - 1 + 1) = [] := List.drop_of_length_le (by omega)
  rw [e6, e7]
  simp
theorem cup_own_upd {σ0 τ : St} {b : Nat} {cs cs' : List V} : own (cup (upd σ0 b cs') τ) = own (cup (upd σ0 b cs) τ) := by
  funext m
  simp only [own, cup, upd]
  by_cases h : m = b <;> simp [h]
/-- Of what lies at the end of a block nothing is known any more. -/
theorem ACalls.cut {P : Program} {f : FuncId} {args : List V} {G : V → St → Prop} (h : ACalls P Γ f args σ fun r s => ∃ s0 b cs ex, G r (upd s0 b cs) ∧ s = upd s0 b (cs ++ ex)) : ACalls P Γ f args σ G := by
  refine ⟨h.1, fun τ w cargs h1 h2 h3 h4 => (h.2 τ w cargs h1 h2 h3 h4).mono ?_⟩
  rintro e w' ⟨r, v, s, rfl, ⟨s0, b, cs, ex, hG, rfl⟩, p1, p2, p3, p4⟩
  have ho := cup_own_upd (σ0 := s0) (τ := τ) (b := b) (cs := cs ++ ex) (cs' := cs)
  refine ⟨r, v, upd s0 b cs, rfl, hG, ?_, ?_, by rw [ho]; exact p3, by rw [ho]; exact p4⟩
  · intro m
    rcases p1 m with h | h
    · refine .inl ?_
      by_cases e : m = b
      · subst e; rw [upd_same] at h; cases h
      · rw [upd_ne _ _ e] at h ⊢; exact h
    · exact .inr h
  · intro m c hm
    by_cases e : m = b
    · subst e
      have hc : c = cs := by
        have := cup_of_some (τ := τ) (upd_same s0 m cs)
        rw [this] at hm; exact (Option.some.inj hm).symm
      subst hc
      obtain ⟨arr, e', fz, g1, g2, g3, g4⟩ := p2 m (c ++ ex) (cup_of_some (upd_same _ _ _))
      refine ⟨arr, e', fz, g1, g2, by rw [List.length_append] at g3; omega, fun i x hx => ?_⟩
      rw [ho]
      exact g4 i x (by rw [List.getElem?_append_left (List.getElem?_eq_some_iff.1 hx).1]; exact hx)
    · have hm2 : cup (upd s0 b (cs ++ ex)) τ m = some c := by
        simp only [cup, upd_ne _ _ e] at hm ⊢; exact hm
      rw [ho]
      exact p2 m c hm2
theorem flat_cls (cls : List (List Int)) : flat (clsV cls) = clsV cls := by
  induction cls with
  | nil => rfl
  | cons c r ih => show (intsV c).cells ++ flat (clsV r) = intsV c :: clsV r; rw [ih]; rfl
theorem deleteC_ok {cls : List (List Int)} {q : V} {i : Nat} (ho : OwnL σ0 1 (clsV cls) q σ) (hi : i < cls.length) (hl : cls.length ≤ 1000000) :
    ACalls Try.prog Γ 121 [q, .int .i64 i, .int .i64 (i + 1)] σ fun r s => OwnL σ0 1 (clsV (cls.take i ++ cls.drop (i + 1))) r s := by
  have hcl := clsV_len cls
  have hne : clsV cls ≠ [] := fun e => by rw [e] at hcl; simp at hcl; omega
  obtain ⟨b, cap, rfl, hb, hcap, hn, rfl⟩ := ho.at hne
  have hf := flat_cls cls
  rw [hf] at hb ⊢
  clear ho
  rw [hcl] at hcap
  refine ACalls.cut (ACalls.mono _ _ (deleteL_ok (b := b) (cap := cap) (i := i) hb (by omega) (by omega) (by omega) (fun x hx => by
    simp only [clsV, List.mem_map] at hx; obtain ⟨y, _, rfl⟩ := hx; exact ⟨rfl, rfl⟩)) fun r s ⟨e1, e2⟩ => ⟨σ0, b, clsV (cls.take i ++ cls.drop (i + 1)), [.isl true 0 []], ?_, ?_⟩)
  · subst e1
    have hl2 : (clsV (cls.take i ++ cls.drop (i + 1))).length = cls.length - 1 := by rw [clsV_len]; simp; omega
    have hf2 := flat_cls (cls.take i ++ cls.drop (i + 1))
    refine ⟨.inr ⟨b, cap, hn, by rw [hl2, hcl], by rw [hf2], by rw [hf2, hl2]; exact ⟨by omega, by omega⟩⟩, fun x hx => ?_⟩
    simp only [clsV, List.mem_map] at hx; obtain ⟨y, _, rfl⟩ := hx; exact ⟨rfl, fun c hc => by simp only [intsV, V.cells, List.mem_singleton] at hc; subst hc; rfl⟩
  · rw [e2, upd_upd]
    simp [clsV, List.map_take, List.map_drop]
end Go.Proofs.Ytlojopaebdnacaa.Lg
/- Steps that are right; clauses that are the same; of the program and of the reference. -/
set_option linter.unusedSimpArgs false
set_option linter.unusedVariables false
namespace Go.Proofs.Ytlojopaebdnacaa.Lg
open Go
attribute [local irreducible] SRun DS DRun
variable {Γ : St} {σ σ0 : St}
theorem equalI_ok {ex ex2 : Bool} {xs ys : List Int} (hl : xs.length ≤ 1000000000) : Ret Try.prog Γ 80 [.isl ex 1 (ints xs), .isl ex2 1 (ints ys)] σ (.bool (xs == ys)) σ := by
  refine ret_of c80_ok rfl ?_
  simp (disch := omega) only [c80, go_sem]
  first | refine iteW_dec (fun h => ?_) (fun h => ?_) | refine iteW_of (fun h => ?_) (fun h => ?_)
  · simp (disch := omega) only [go_sem]
    refine W_retR c80_ok rfl ⟨?_, rfl⟩
    simp only [look, ev, V.bool.injEq, V.int.injEq, V.str.injEq, V.tup.injEq, V.agg.injEq, V.isl.injEq, List.cons.injEq, true_and, and_true, Nat.reduceEqDiff, Nat.reduceAdd, Nat.reduceSub, Nat.reduceMul, Nat.reducePow, Nat.reduceDiv, Nat.reduceMod, Int.reduceToNat, Nat.reduceLeDiff, Nat.reduceLT, Int.reduceEq, Int.reduceLT, Int.reduceLE, Int.reduceGT, Int.reduceGE, Int.reduceNeg, Int.reduceSub, Int.reduceAdd, Int.reduceMul, Int.reducePow, ne_eq, reduceCtorEq, ↓reduceIte]
    symm; rw [beq_eq_false_iff_ne]; intro e; exact h (by rw [e])
  · simp (disch := omega) only [go_sem]
    have hlen : xs.length = ys.length := by omega
    refine W_loopC (fun i : Nat => i ≤ xs.length ∧ xs.take i = ys.take i) (fun i => [(0, .isl ex 1 (ints xs)), (1, .isl ex2 1 (ints ys)), (12, .int .i64 xs.length), (13, .int .i64 i)]) (fun _ => σ) (fun i => xs.length - i) 0 ⟨by omega, rfl⟩ (by simp (disch := omega) only [subT, Int.natCast_add, Int.cast_ofNat_Int, go_sem] <;> (repeat' apply And.intro) <;> first | rfl | (congr 1; omega) | assumption) rfl ?_
    rintro i ⟨hi, ht⟩ ih
    simp (disch := omega) only [go_sem]
    first | refine iteW_dec (fun h2 => ?_) (fun h2 => ?_) | refine iteW_of (fun h2 => ?_) (fun h2 => ?_)
    · simp (disch := omega) only [go_sem]
      refine W_drawW ?_
      simp (disch := omega) only [go_sem]
      first | refine iteW_dec (fun h3 => ?_) (fun h3 => ?_) | refine iteW_of (fun h3 => ?_) (fun h3 => ?_)
      · simp (disch := omega) only [go_sem]
        refine W_retR c80_ok rfl ⟨?_, rfl⟩
        simp only [look, ev, V.bool.injEq, V.int.injEq, V.str.injEq, V.tup.injEq, V.agg.injEq, V.isl.injEq, List.cons.injEq, true_and, and_true, Nat.reduceEqDiff, Nat.reduceAdd, Nat.reduceSub, Nat.reduceMul, Nat.reducePow, Nat.reduceDiv, Nat.reduceMod, Int.reduceToNat, Nat.reduceLeDiff, Nat.reduceLT, Int.reduceEq, Int.reduceLT, Int.reduceLE, Int.reduceGT, Int.reduceGE, Int.reduceNeg, Int.reduceSub, Int.reduceAdd, Int.reduceMul, Int.reducePow, ne_eq, reduceCtorEq, ↓reduceIte]
        symm; rw [beq_eq_false_iff_ne]; intro e; subst e; exact h3 rfl
      · simp (disch := omega) only [go_sem]
        refine ih (i + 1) _ _ ⟨by omega, ?_⟩ (by omega) (by simp (disch := omega) only [subT, Int.natCast_add, Int.cast_ofNat_Int, go_sem] <;> (repeat' apply And.intro) <;> first | rfl | (congr 1; omega) | assumption) rfl
        rw [take_succ 0 (by omega), take_succ 0 (by omega), ht]
        have h3' : xs.getD i 0 = ys.getD i 0 := by omega
        rw [h3']
    · simp (disch := omega) only [go_sem]
      refine W_retR c80_ok rfl ⟨?_, rfl⟩
      simp only [look, ev, V.bool.injEq, V.int.injEq, V.str.injEq, V.tup.injEq, V.agg.injEq, V.isl.injEq, List.cons.injEq, true_and, and_true, Nat.reduceEqDiff, Nat.reduceAdd, Nat.reduceSub, Nat.reduceMul, Nat.reducePow, Nat.reduceDiv, Nat.reduceMod, Int.reduceToNat, Nat.reduceLeDiff, Nat.reduceLT, Int.reduceEq, Int.reduceLT, Int.reduceLE, Int.reduceGT, Int.reduceGE, Int.reduceNeg, Int.reduceSub, Int.reduceAdd, Int.reduceMul, Int.reducePow, ne_eq, reduceCtorEq, ↓reduceIte]
      symm; rw [beq_iff_eq]
      rw [List.take_of_length_le (by omega), List.take_of_length_le (by omega)] at ht; exact ht
theorem l01Same_ok {ex ex2 : Bool} {xs ys : List Int} (hl : xs.length ≤ 1000000000) : Ret Try.prog Γ 82 [.isl ex 1 (ints xs), .isl ex2 1 (ints ys)] σ (.bool (xs == ys)) σ := by
  refine ret_of c82_ok rfl ?_
  simp (disch := omega) only [c82, go_sem]
  first | refine iteW_dec (fun h => ?_) (fun h => ?_) | refine iteW_of (fun h => ?_) (fun h => ?_)
  · simp (disch := omega) only [go_sem]
    refine W_retR c82_ok rfl ⟨?_, rfl⟩
    simp only [look, ev, V.bool.injEq, V.int.injEq, V.str.injEq, V.tup.injEq, V.agg.injEq, V.isl.injEq, List.cons.injEq, true_and, and_true, Nat.reduceEqDiff, Nat.reduceAdd, Nat.reduceSub, Nat.reduceMul, Nat.reducePow, Nat.reduceDiv, Nat.reduceMod, Int.reduceToNat, Nat.reduceLeDiff, Nat.reduceLT, Int.reduceEq, Int.reduceLT, Int.reduceLE, Int.reduceGT, Int.reduceGE, Int.reduceNeg, Int.reduceSub, Int.reduceAdd, Int.reduceMul, Int.reducePow, ne_eq, reduceCtorEq, ↓reduceIte]
    symm; rw [beq_eq_false_iff_ne]; intro e; exact h (by rw [e])
  · simp (disch := omega) only [go_sem]
    have hlen : xs.length = ys.length := by omega
    refine W_loopC (fun i : Nat => i ≤ xs.length ∧ xs.take i = ys.take i) (fun i => [(0, .isl ex 1 (ints xs)), (1, .isl ex2 1 (ints ys)), (5, .int .i64 i)]) (fun _ => σ) (fun i => xs.length - i) 0 ⟨by omega, rfl⟩ (by simp (disch := omega) only [subT, Int.natCast_add, Int.cast_ofNat_Int, go_sem] <;> (repeat' apply And.intro) <;> first | rfl | (congr 1; omega) | assumption) rfl ?_
    rintro i ⟨hi, ht⟩ ih
    simp (disch := omega) only [go_sem]
    first | refine iteW_dec (fun h2 => ?_) (fun h2 => ?_) | refine iteW_of (fun h2 => ?_) (fun h2 => ?_)
    · simp (disch := omega) only [go_sem]
      refine W_drawW ?_
      simp (disch := omega) only [go_sem]
      first | refine iteW_dec (fun h3 => ?_) (fun h3 => ?_) | refine iteW_of (fun h3 => ?_) (fun h3 => ?_)
      · simp (disch := omega) only [go_sem]
        refine W_retR c82_ok rfl ⟨?_, rfl⟩
        simp only [look, ev, V.bool.injEq, V.int.injEq, V.str.injEq, V.tup.injEq, V.agg.injEq, V.isl.injEq, List.cons.injEq, true_and, and_true, Nat.reduceEqDiff, Nat.reduceAdd, Nat.reduceSub, Nat.reduceMul, Nat.reducePow, Nat.reduceDiv, Nat.reduceMod, Int.reduceToNat, Nat.reduceLeDiff, Nat.reduceLT, Int.reduceEq, Int.reduceLT, Int.reduceLE, Int.reduceGT, Int.reduceGE, Int.reduceNeg, Int.reduceSub, Int.reduceAdd, Int.reduceMul, Int.reducePow, ne_eq, reduceCtorEq, ↓reduceIte]
        symm; rw [beq_eq_false_iff_ne]; intro e; subst e; exact h3 rfl
      · simp (disch := omega) only [go_sem]
        refine ih (i + 1) _ _ ⟨by omega, ?_⟩ (by omega) (by simp (disch := omega) only [subT, Int.natCast_add, Int.cast_ofNat_Int, go_sem] <;> (repeat' apply And.intro) <;> first | rfl | (congr 1; omega) | assumption) rfl
        rw [take_succ 0 (by omega), take_succ 0 (by omega), ht]
        have h3' : xs.getD i 0 = ys.getD i 0 := by omega
        rw [h3']
    · simp (disch := omega) only [go_sem]
      refine W_retR c82_ok rfl ⟨?_, rfl⟩
      simp only [look, ev, V.bool.injEq, V.int.injEq, V.str.injEq, V.tup.injEq, V.agg.injEq, V.isl.injEq, List.cons.injEq, true_and, and_true, Nat.reduceEqDiff, Nat.reduceAdd, Nat.reduceSub, Nat.reduceMul, Nat.reducePow, Nat.reduceDiv, Nat.reduceMod, Int.reduceToNat, Nat.reduceLeDiff, Nat.reduceLT, Int.reduceEq, Int.reduceLT, Int.reduceLE, Int.reduceGT, Int.reduceGE, Int.reduceNeg, Int.reduceSub, Int.reduceAdd, Int.reduceMul, Int.reducePow, ne_eq, reduceCtorEq, ↓reduceIte]
      symm; rw [beq_iff_eq]
      rw [List.take_of_length_le (by omega), List.take_of_length_le (by omega)] at ht; exact ht
theorem sameIntsP_ok {ex ex2 : Bool} {xs ys : List Int} (hl : xs.length ≤ 1000000000) : Ret Try.prog Γ 20 [.isl ex 1 (ints xs), .isl ex2 1 (ints ys)] σ (.bool (xs == ys)) σ := by
  refine ret_of c20_ok rfl ?_
  simp (disch := omega) only [c20, go_sem]
  first | refine iteW_dec (fun h => ?_) (fun h => ?_) | refine iteW_of (fun h => ?_) (fun h => ?_)
  · simp (disch := omega) only [go_sem]
    refine W_retR c20_ok rfl ⟨?_, rfl⟩
    simp only [look, ev, V.bool.injEq, V.int.injEq, V.str.injEq, V.tup.injEq, V.agg.injEq, V.isl.injEq, List.cons.injEq, true_and, and_true, Nat.reduceEqDiff, Nat.reduceAdd, Nat.reduceSub, Nat.reduceMul, Nat.reducePow, Nat.reduceDiv, Nat.reduceMod, Int.reduceToNat, Nat.reduceLeDiff, Nat.reduceLT, Int.reduceEq, Int.reduceLT, Int.reduceLE, Int.reduceGT, Int.reduceGE, Int.reduceNeg, Int.reduceSub, Int.reduceAdd, Int.reduceMul, Int.reducePow, ne_eq, reduceCtorEq, ↓reduceIte]
    symm; rw [beq_eq_false_iff_ne]; intro e; exact h (by rw [e])
  · simp (disch := omega) only [go_sem]
    have hlen : xs.length = ys.length := by omega
    refine W_loopC (fun i : Nat => i ≤ xs.length ∧ xs.take i = ys.take i) (fun i => [(0, .isl ex 1 (ints xs)), (1, .isl ex2 1 (ints ys)), (5, .int .i64 i)]) (fun _ => σ) (fun i => xs.length - i) 0 ⟨by omega, rfl⟩ (by simp (disch := omega) only [subT, Int.natCast_add, Int.cast_ofNat_Int, go_sem] <;> (repeat' apply And.intro) <;> first | rfl | (congr 1; omega) | assumption) rfl ?_
    rintro i ⟨hi, ht⟩ ih
    simp (disch := omega) only [go_sem]
    first | refine iteW_dec (fun h2 => ?_) (fun h2 => ?_) | refine iteW_of (fun h2 => ?_) (fun h2 => ?_)
    · simp (disch := omega) only [go_sem]
      refine W_drawW ?_
      simp (disch := omega) only [go_sem]
      first | refine iteW_dec (fun h3 => ?_) (fun h3 => ?_) | refine iteW_of (fun h3 => ?_) (fun h3 => ?_)
      · simp (disch := omega) only [go_sem]
        refine W_retR c20_ok rfl ⟨?_, rfl⟩
        simp only [look, ev, V.bool.injEq, V.int.injEq, V.str.injEq, V.tup.injEq, V.agg.injEq, V.isl.injEq, List.cons.injEq, true_and, and_true, Nat.reduceEqDiff, Nat.reduceAdd, Nat.reduceSub, Nat.reduceMul, Nat.reducePow, Nat.reduceDiv, Nat.reduceMod, Int.reduceToNat, Nat.reduceLeDiff, Nat.reduceLT, Int.reduceEq, Int.reduceLT, Int.reduceLE, Int.reduceGT, Int.reduceGE, Int.reduceNeg, Int.reduceSub, Int.reduceAdd, Int.reduceMul, Int.reducePow, ne_eq, reduceCtorEq, ↓reduceIte]
        symm; rw [beq_eq_false_iff_ne]; intro e; subst e; exact h3 rfl
      · simp (disch := omega) only [go_sem]
        refine ih (i + 1) _ _ ⟨by omega, ?_⟩ (by omega) (by simp (disch := omega) only [subT, Int.natCast_add, Int.cast_ofNat_Int, go_sem] <;> (repeat' apply And.intro) <;> first | rfl | (congr 1; omega) | assumption) rfl
        rw [take_succ 0 (by omega), take_succ 0 (by omega), ht]
        have h3' : xs.getD i 0 = ys.getD i 0 := by omega
        rw [h3']
    · simp (disch := omega) only [go_sem]
      refine W_retR c20_ok rfl ⟨?_, rfl⟩
      simp only [look, ev, V.bool.injEq, V.int.injEq, V.str.injEq, V.tup.injEq, V.agg.injEq, V.isl.injEq, List.cons.injEq, true_and, and_true, Nat.reduceEqDiff, Nat.reduceAdd, Nat.reduceSub, Nat.reduceMul, Nat.reducePow, Nat.reduceDiv, Nat.reduceMod, Int.reduceToNat, Nat.reduceLeDiff, Nat.reduceLT, Int.reduceEq, Int.reduceLT, Int.reduceLE, Int.reduceGT, Int.reduceGE, Int.reduceNeg, Int.reduceSub, Int.reduceAdd, Int.reduceMul, Int.reducePow, ne_eq, reduceCtorEq, ↓reduceIte]
      symm; rw [beq_iff_eq]
      rw [List.take_of_length_le (by omega), List.take_of_length_le (by omega)] at ht; exact ht
theorem inOrderR_ok {ex : Bool} {c : List Int} (hl : c.length ≤ 1000) (hx : ∀ x ∈ c, litOK 40 x) : Ret Try.prog Γ 71 [.isl ex 1 (ints c)] σ (intsV (ordP c)) σ :=
  ACalls.mono _ _ (inOrder_ok (by omega) fun x h => by have := (hx x h).2; omega) fun r s ⟨ys, h1, h2, h3⟩ => ⟨by rw [h2, h1.eq], h3⟩
theorem l01SortedR_ok {ex : Bool} {c : List Int} (hl : c.length ≤ 1000) (hx : ∀ x ∈ c, litOK 40 x) : Ret Try.prog Γ 76 [.isl ex 1 (ints c)] σ (.tup [intsV (ordP c), .bool (!tautP (ordP c))]) σ :=
  ACalls.mono _ _ (l01Sorted_ok hl fun x h => by have := hx x h; exact ⟨this.1, by have := this.2; omega, by have := this.2; omega⟩) fun r s ⟨ys, h1, h2, h3⟩ => ⟨by rw [h2, h1.eq], h3⟩
theorem ordP_len (c : List Int) : (ordP c).length ≤ c.length := strict_len (ordP_of c).1 fun x hx => ((ordP_of c).2 x).1 hx
/-! Steps -/
section
variable {P : Program} {f : FuncId} {n : Nat} {Q : V → St → Prop} {k : List It} {T : Ts} {g : GI} {l : List GI}
theorem stepW_iaddr_steps {ex : Bool} {st : List (Bool × List Int)} {kk : IntKind} {m : Int} (h0 : 0 ≤ m) (h1 : m < st.length) : stepW P Γ f n Q (.iaddr 2 (.c (.isl ex 2 (stepsV st))) (.c (.int kk m))) g l k T σ = W P Γ f n Q (.ops l :: k) (putT T g.d (.iptr [.bool (st.getD m.toNat (false, [])).1, .isl false 1 (ints (st.getD m.toNat (false, [])).2)])) σ := stepW_iaddr_map h0 h1
theorem stepK_iaddr_steps {K : V → St → Prop} {ex : Bool} {st : List (Bool × List Int)} {kk : IntKind} {m : Int} (h0 : 0 ≤ m) (h1 : m < st.length) : stepK (.iaddr 2 (.c (.isl ex 2 (stepsV st))) (.c (.int kk m))) σ K = K (.iptr [.bool (st.getD m.toNat (false, [])).1, .isl false 1 (ints (st.getD m.toNat (false, [])).2)]) σ := stepK_iaddr_map h0 h1
end
attribute [go_sem] stepW_iaddr_steps stepK_iaddr_steps stepsV_len
def stepB (vars : Int) (s : Bool × List Int) : Bool := clauseB vars s.2
def stepsB (vars : Int) (st : List (Bool × List Int)) : Bool := decide (st.length ≤ 200) && st.all (stepB vars)
theorem areSteps1_ok {s : Bool × List Int} {vars : Int} {b : Nat} (hb : σ b = some [.int .i64 vars]) (hv : 0 ≤ vars ∧ vars ≤ 1000000) (hl : s.2.length ≤ 1000000) : Ret Try.prog Γ 120 [.agg [.bool s.1, .isl false 1 (ints s.2)], .ptr b 0] σ (.bool (!stepB vars s)) σ := by
  refine ret_of c120_ok rfl ?_
  simp (disch := omega) only [c120, go_sem]
  refine SRun.boxR (by simp [ev, look, V.cells, V.one]) ?_
  intro b2 hb2
  have g : ∀ z, upd σ b2 z b = some [.int .i64 vars] := fun z => le_upd hb2 _ _ hb
  simp (disch := omega) only [g, go_sem]
  refine SRun.callR (isClause_ok (by omega) hv) ⟨[], rfl, rfl⟩ rfl ?_
  simp (disch := omega) only [go_sem]
  exact W_retC c120_ok rfl (Conv.drop _ (le_upd hb2)) ⟨rfl, rfl⟩
theorem indexFuncS_ok {ex : Bool} {xs : List (Bool × List Int)} {F : FuncId} {caps : List V} {p : Bool × List Int → Bool} (hl : xs.length ≤ 140737488355328) (hp : ∀ x ∈ xs, Ret Try.prog Γ F (.agg [.bool x.1, .isl false 1 (ints x.2)] :: caps) σ (.bool (p x)) σ) :
    Ret Try.prog Γ 139 [.isl ex 2 (stepsV xs), .fn F caps] σ (.int .i64 (match xs.findIdx? p with | some i => (i : Int) | none => -1)) σ := by
  refine ret_of c139_ok rfl ?_
  simp (disch := omega) only [c139, go_sem]
  refine W_loopC (fun i : Nat => i ≤ xs.length ∧ ∀ j x, j < i → xs[j]? = some x → p x = false) (fun i => [(0, .isl ex 2 (stepsV xs)), (1, .fn F caps), (7, .int .i64 xs.length), (8, .int .i64 (i : Nat))]) (fun _ => σ) (fun i => xs.length - i) 0 ⟨by omega, fun j x hj => by omega⟩ (by simp (disch := omega) only [subT, Int.natCast_add, Int.cast_ofNat_Int, go_sem] <;> (repeat' apply And.intro) <;> first | rfl | (congr 1; omega) | assumption) rfl ?_
  rintro i ⟨hi, hno⟩ ih
  simp (disch := omega) only [go_sem]
  first | refine iteW_dec (fun h => ?_) (fun h => ?_) | refine iteW_of (fun h => ?_) (fun h => ?_)
  · have hlt : i < xs.length := by omega
    have hm := getD_mem (false, []) hlt
    have hs := getD_some (false, []) hlt
    simp (disch := omega) only [go_sem]
    generalize xs.getD i (false, []) = x at hm hs ⊢
    refine SRun.callR (hp _ hm) ⟨caps, rfl, rfl⟩ rfl ?_
    simp (disch := omega) only [go_sem]
    first | refine iteW_dec (fun hb => ?_) (fun hb => ?_) | refine iteW_of (fun hb => ?_) (fun hb => ?_)
    · simp (disch := omega) only [go_sem]
      refine W_retR c139_ok rfl ⟨?_, rfl⟩
      simp only [look, ev, V.bool.injEq, V.int.injEq, V.str.injEq, V.tup.injEq, V.agg.injEq, V.isl.injEq, List.cons.injEq, true_and, and_true, Nat.reduceEqDiff, Nat.reduceAdd, Nat.reduceSub, Nat.reduceMul, Nat.reducePow, Nat.reduceDiv, Nat.reduceMod, Int.reduceToNat, Nat.reduceLeDiff, Nat.reduceLT, Int.reduceEq, Int.reduceLT, Int.reduceLE, Int.reduceGT, Int.reduceGE, Int.reduceNeg, Int.reduceSub, Int.reduceAdd, Int.reduceMul, Int.reducePow, ne_eq, reduceCtorEq, ↓reduceIte]
      have : xs.findIdx? p = some i := by
        rw [List.findIdx?_eq_some_iff_getElem]
        refine ⟨hlt, ?_, fun j hj => ?_⟩
        · have : xs[i] = x := by rw [List.getElem?_eq_getElem hlt] at hs; exact Option.some.inj hs
          rw [this]; exact hb
        · simpa using hno j xs[j] hj (by simp)
      rw [this]
    · simp (disch := omega) only [go_sem]
      refine ih (i + 1) _ _ ⟨by omega, fun j y hj hy => ?_⟩ (by omega) (by simp (disch := omega) only [subT, Int.natCast_add, Int.cast_ofNat_Int, go_sem] <;> (repeat' apply And.intro) <;> first | rfl | (congr 1; omega) | assumption) rfl
      by_cases hji : j = i
      · subst hji; rw [hs] at hy; obtain rfl := Option.some.inj hy; simpa using hb
      · exact hno j y (by omega) hy
  · simp (disch := omega) only [go_sem]
    refine W_retR c139_ok rfl ⟨?_, rfl⟩
    simp only [look, ev, V.bool.injEq, V.int.injEq, V.str.injEq, V.tup.injEq, V.agg.injEq, V.isl.injEq, List.cons.injEq, true_and, and_true, Nat.reduceEqDiff, Nat.reduceAdd, Nat.reduceSub, Nat.reduceMul, Nat.reducePow, Nat.reduceDiv, Nat.reduceMod, Int.reduceToNat, Nat.reduceLeDiff, Nat.reduceLT, Int.reduceEq, Int.reduceLT, Int.reduceLE, Int.reduceGT, Int.reduceGE, Int.reduceNeg, Int.reduceSub, Int.reduceAdd, Int.reduceMul, Int.reducePow, ne_eq, reduceCtorEq, ↓reduceIte]
    have : xs.findIdx? p = none := by
      rw [List.findIdx?_eq_none_iff]
      intro x hx
      obtain ⟨j, hj, rfl⟩ := List.getElem_of_mem hx
      exact hno j _ (by omega) (by simp)
    rw [this]
theorem containsFuncS_ok {ex : Bool} {xs : List (Bool × List Int)} {F : FuncId} {caps : List V} {p : Bool × List Int → Bool} (hl : xs.length ≤ 140737488355328) (hp : ∀ x ∈ xs, Ret Try.prog Γ F (.agg [.bool x.1, .isl false 1 (ints x.2)] :: caps) σ (.bool (p x)) σ) :
    Ret Try.prog Γ 119 [.isl ex 2 (stepsV xs), .fn F caps] σ (.bool (xs.any p)) σ := by
  refine ret_of c119_ok rfl ?_
  simp (disch := omega) only [c119, go_sem]
  refine SRun.callR (indexFuncS_ok hl hp) ⟨[], rfl, rfl⟩ rfl ?_
  have h := any_find xs p
  simp (disch := omega) only [go_sem]
  refine W_retR c119_ok rfl ⟨?_, rfl⟩
  simp only [look, ev, V.bool.injEq, V.int.injEq, V.str.injEq, V.tup.injEq, V.agg.injEq, V.isl.injEq, List.cons.injEq, true_and, and_true, Nat.reduceEqDiff, Nat.reduceAdd, Nat.reduceSub, Nat.reduceMul, Nat.reducePow, Nat.reduceDiv, Nat.reduceMod, Int.reduceToNat, Nat.reduceLeDiff, Nat.reduceLT, Int.reduceEq, Int.reduceLT, Int.reduceLE, Int.reduceGT, Int.reduceGE, Int.reduceNeg, Int.reduceSub, Int.reduceAdd, Int.reduceMul, Int.reducePow, ne_eq, reduceCtorEq, ↓reduceIte]
  exact h
theorem areSteps_ok {ex : Bool} {st : List (Bool × List Int)} {vars : Int} (hv : 0 ≤ vars ∧ vars ≤ 1000000) (hl : st.length ≤ 1000000) (hs : ∀ s ∈ st, s.2.length ≤ 1000000) : Ret Try.prog Γ 85 [.isl ex 2 (stepsV st), .int .i64 vars] σ (.bool (stepsB vars st)) σ := by
  refine ret_of c85_ok rfl ?_
  simp (disch := omega) only [c85, go_sem]
  refine SRun.boxR (by simp [ev, look, V.cells, V.one]) ?_
  intro b hb
  by_cases h : (st.length : Int) ≤ 200
  · have d := decide_eq_true h
    simp (disch := omega) only [d, go_sem]
    refine SRun.callR (containsFuncS_ok (p := fun s => !stepB vars s) (by omega) fun s hm => areSteps1_ok (b := b) (upd_same _ _ _) hv (hs s hm)) ⟨[], rfl, rfl⟩ rfl ?_
    simp (disch := omega) only [go_sem]
    refine W_retC c85_ok rfl (Conv.drop _ (le_upd hb)) ⟨?_, rfl⟩
    simp only [look, ev, V.bool.injEq, V.int.injEq, V.str.injEq, V.tup.injEq, V.agg.injEq, V.isl.injEq, List.cons.injEq, true_and, and_true, Nat.reduceEqDiff, Nat.reduceAdd, Nat.reduceSub, Nat.reduceMul, Nat.reducePow, Nat.reduceDiv, Nat.reduceMod, Int.reduceToNat, Nat.reduceLeDiff, Nat.reduceLT, Int.reduceEq, Int.reduceLT, Int.reduceLE, Int.reduceGT, Int.reduceGE, Int.reduceNeg, Int.reduceSub, Int.reduceAdd, Int.reduceMul, Int.reducePow, ne_eq, reduceCtorEq, ↓reduceIte]
    have : decide (st.length ≤ 200) = true := decide_eq_true (by omega)
    unfold stepsB
    rw [this, Bool.true_and, List.all_eq_not_any_not]
  · have d := decide_eq_false h
    simp (disch := omega) only [d, go_sem]
    refine W_retC c85_ok rfl (Conv.drop _ (le_upd hb)) ⟨?_, rfl⟩
    simp only [look, ev, V.bool.injEq, V.int.injEq, V.str.injEq, V.tup.injEq, V.agg.injEq, V.isl.injEq, List.cons.injEq, true_and, and_true, Nat.reduceEqDiff, Nat.reduceAdd, Nat.reduceSub, Nat.reduceMul, Nat.reducePow, Nat.reduceDiv, Nat.reduceMod, Int.reduceToNat, Nat.reduceLeDiff, Nat.reduceLT, Int.reduceEq, Int.reduceLT, Int.reduceLE, Int.reduceGT, Int.reduceGE, Int.reduceNeg, Int.reduceSub, Int.reduceAdd, Int.reduceMul, Int.reducePow, ne_eq, reduceCtorEq, ↓reduceIte]
    have : decide (st.length ≤ 200) = false := decide_eq_false (by omega)
    unfold stepsB
    rw [this, Bool.false_and]
theorem l03Steps_ok {ex : Bool} {st : List (Bool × List Int)} {vars : Int} (hv : 0 ≤ vars ∧ vars ≤ 1000000) (hl : st.length ≤ 1000000) (hs : ∀ s ∈ st, s.2.length ≤ 1000000) : Ret Try.prog Γ 87 [.isl ex 2 (stepsV st), .int .i64 vars] σ (.bool (stepsB vars st)) σ := by
  refine ret_of c87_ok rfl ?_
  simp (disch := omega) only [c87, go_sem]
  first | refine iteW_dec (fun h => ?_) (fun h => ?_) | refine iteW_of (fun h => ?_) (fun h => ?_)
  · simp (disch := omega) only [go_sem]
    refine W_retR c87_ok rfl ⟨?_, rfl⟩
    simp only [look, ev, V.bool.injEq, V.int.injEq, V.str.injEq, V.tup.injEq, V.agg.injEq, V.isl.injEq, List.cons.injEq, true_and, and_true, Nat.reduceEqDiff, Nat.reduceAdd, Nat.reduceSub, Nat.reduceMul, Nat.reducePow, Nat.reduceDiv, Nat.reduceMod, Int.reduceToNat, Nat.reduceLeDiff, Nat.reduceLT, Int.reduceEq, Int.reduceLT, Int.reduceLE, Int.reduceGT, Int.reduceGE, Int.reduceNeg, Int.reduceSub, Int.reduceAdd, Int.reduceMul, Int.reducePow, ne_eq, reduceCtorEq, ↓reduceIte]
    have : decide (st.length ≤ 200) = false := decide_eq_false (by omega)
    unfold stepsB
    rw [this, Bool.false_and]
  · simp (disch := omega) only [go_sem]
    have h2 : decide (st.length ≤ 200) = true := decide_eq_true (by omega)
    refine W_loopC (fun i : Nat => i ≤ st.length ∧ (st.take i).all (stepB vars) = true) (fun i => [(0, .isl ex 2 (stepsV st)), (1, .int .i64 vars), (5, .int .i64 (i : Nat))]) (fun _ => σ) (fun i => st.length - i) 0 ⟨by omega, rfl⟩ (by simp (disch := omega) only [subT, Int.natCast_add, Int.cast_ofNat_Int, go_sem] <;> (repeat' apply And.intro) <;> first | rfl | (congr 1; omega) | assumption) rfl ?_
    rintro i ⟨hi, hall⟩ ih
    simp (disch := omega) only [go_sem]
    first | refine iteW_dec (fun h3 => ?_) (fun h3 => ?_) | refine iteW_of (fun h3 => ?_) (fun h3 => ?_)
    · have hlt : i < st.length := by omega
      have hm := getD_mem (false, []) hlt
      have hsm := getD_some (false, []) hlt
      simp (disch := omega) only [go_sem]
      generalize st.getD i (false, []) = s at hm hsm ⊢
      refine SRun.callR (l01Clause_ok (hs s hm) hv) ⟨[], rfl, rfl⟩ rfl ?_
      simp (disch := omega) only [go_sem]
      cases hc : clauseB vars s.2 with
      | true =>
        simp (disch := omega) only [go_sem]
        exact ih (i + 1) _ _ ⟨by omega, all_take hall hsm hc⟩ (by omega) (by simp (disch := omega) only [subT, Int.natCast_add, Int.cast_ofNat_Int, go_sem] <;> (repeat' apply And.intro) <;> first | rfl | (congr 1; omega) | assumption) rfl
      | false =>
        simp (disch := omega) only [go_sem]
        refine W_retR c87_ok rfl ⟨?_, rfl⟩
        simp only [look, ev, V.bool.injEq, V.int.injEq, V.str.injEq, V.tup.injEq, V.agg.injEq, V.isl.injEq, List.cons.injEq, true_and, and_true, Nat.reduceEqDiff, Nat.reduceAdd, Nat.reduceSub, Nat.reduceMul, Nat.reducePow, Nat.reduceDiv, Nat.reduceMod, Int.reduceToNat, Nat.reduceLeDiff, Nat.reduceLT, Int.reduceEq, Int.reduceLT, Int.reduceLE, Int.reduceGT, Int.reduceGE, Int.reduceNeg, Int.reduceSub, Int.reduceAdd, Int.reduceMul, Int.reducePow, ne_eq, reduceCtorEq, ↓reduceIte]
        unfold stepsB
        rw [all_false hsm (show stepB vars s = false from hc), Bool.and_false]
    · rw [List.take_of_length_le (by omega)] at hall
      simp (disch := omega) only [go_sem]
      refine W_retR c87_ok rfl ⟨?_, rfl⟩
      simp only [look, ev, V.bool.injEq, V.int.injEq, V.str.injEq, V.tup.injEq, V.agg.injEq, V.isl.injEq, List.cons.injEq, true_and, and_true, Nat.reduceEqDiff, Nat.reduceAdd, Nat.reduceSub, Nat.reduceMul, Nat.reducePow, Nat.reduceDiv, Nat.reduceMod, Int.reduceToNat, Nat.reduceLeDiff, Nat.reduceLT, Int.reduceEq, Int.reduceLT, Int.reduceLE, Int.reduceGT, Int.reduceGE, Int.reduceNeg, Int.reduceSub, Int.reduceAdd, Int.reduceMul, Int.reducePow, ne_eq, reduceCtorEq, ↓reduceIte]
      unfold stepsB
      rw [hall, h2]; rfl
theorem sameSteps_ok {ex ex2 : Bool} {xs : List (Bool × List Int)} (hl : xs.length ≤ 1000000) (hs : ∀ s ∈ xs, s.2.length ≤ 1000000) : Ret Try.prog Γ 41 [.isl ex 2 (stepsV xs), .isl ex2 2 (stepsV xs)] σ (.bool true) σ := by
  refine ret_of c41_ok rfl ?_
  simp (disch := omega) only [c41, go_sem]
  refine W_loopC (fun i : Nat => i ≤ xs.length) (fun i => [(0, .isl ex 2 (stepsV xs)), (1, .isl ex2 2 (stepsV xs)), (5, .int .i64 (i : Nat))]) (fun _ => σ) (fun i => xs.length - i) 0 (by omega) (by simp (disch := omega) only [subT, Int.natCast_add, Int.cast_ofNat_Int, go_sem] <;> (repeat' apply And.intro) <;> first | rfl | (congr 1; omega) | assumption) rfl ?_
  intro i hi ih
  simp (disch := omega) only [go_sem]
  first | refine iteW_dec (fun h => ?_) (fun h => ?_) | refine iteW_of (fun h => ?_) (fun h => ?_)
  · have hlt : i < xs.length := by omega
    have hm := getD_mem (false, []) hlt
    simp (disch := omega) only [go_sem]
    generalize hse : xs.getD i (false, []) = s at hm ⊢
    have hbb : (!s.1 == s.1) = false := by simp
    refine W_drawW ?_
    simp (disch := omega) only [hse, hbb, go_sem]
    refine DRun.callG (sameIntsP_ok (ex := false) (ex2 := false) (xs := s.2) (ys := s.2) (by have := hs s hm; omega)) ⟨[], rfl, rfl⟩ rfl ?_
    rintro r s' ⟨rfl, rfl⟩
    simp (disch := omega) only [beq_self_eq_true, go_sem]
    exact ih (i + 1) _ _ (by omega) (by omega) (by simp (disch := omega) only [subT, Int.natCast_add, Int.cast_ofNat_Int, go_sem] <;> (repeat' apply And.intro) <;> first | rfl | (congr 1; omega) | assumption) rfl
  · simp (disch := omega) only [go_sem]
    refine W_retR c41_ok rfl ⟨?_, rfl⟩
    simp only [look, ev, V.bool.injEq, V.int.injEq, V.str.injEq, V.tup.injEq, V.agg.injEq, V.isl.injEq, List.cons.injEq, true_and, and_true, Nat.reduceEqDiff, Nat.reduceAdd, Nat.reduceSub, Nat.reduceMul, Nat.reducePow, Nat.reduceDiv, Nat.reduceMod, Int.reduceToNat, Nat.reduceLeDiff, Nat.reduceLT, Int.reduceEq, Int.reduceLT, Int.reduceLE, Int.reduceGT, Int.reduceGE, Int.reduceNeg, Int.reduceSub, Int.reduceAdd, Int.reduceMul, Int.reducePow, ne_eq, reduceCtorEq, ↓reduceIte]
end Go.Proofs.Ytlojopaebdnacaa.Lg
/- The program's check of a proof. -/
set_option linter.unusedSimpArgs false
set_option linter.unusedVariables false
namespace Go.Proofs.Ytlojopaebdnacaa.Lg
open Go
section
variable {Γ : St} {σ σ0 : St}
variable {P : Program} {f : FuncId} {n : Nat} {Q : V → St → Prop} {k : List It} {T : Ts}
theorem DRun.mixNQ {t : DT} {segs : List DT} (R : Ts → St → Prop) (hr : rdOK t = true) (h : DSW P Γ σ t T emp R) (hk : ∀ T s, R T s → WD P Γ f n Q k segs T (cup s σ)) : DRun P Γ f n Q (t :: segs) k T σ :=
  ⟨emp, σ, disj_emp_left _, (emp_cup _).symm, DS.mono (fun T s hR => (hk T s hR).sound) (DS.of hr h)⟩
end
attribute [local irreducible] SRun DS DRun
variable {Γ : St} {σ σ0 : St}
theorem cls1_ok (c : List Int) : ∀ y ∈ [V.isl false 1 (ints c)], y.cells.length = 1 ∧ ∀ c ∈ y.cells, c.one = true := by
  intro y hy; rw [List.mem_singleton.1 hy]; simp [V.cells, V.one]
theorem clsK_ok (cls : List (List Int)) : ∀ y ∈ clsV cls, y.cells.length = 1 ∧ ∀ c ∈ y.cells, c.one = true := by
  intro y hy; simp only [clsV, List.mem_map] at hy; obtain ⟨x, _, rfl⟩ := hy; simp [V.cells, V.one, intsV]
theorem cls_app (cls : List (List Int)) (c : List Int) : clsV cls ++ [V.isl false 1 (ints c)] = clsV (cls ++ [c]) := by simp [clsV, intsV]
theorem beq_ord (c d : List Int) : (ordP c == ordP d) = decide (ordP c = ordP d) := by
  by_cases h : ordP c = ordP d
  · rw [h]; simp
  · rw [decide_eq_false h]; simpa using h
set_option maxHeartbeats 4000000 in
theorem checkProof_ok {ex : Bool} {vars : Int} {cls : List (List Int)} {steps : List (Bool × List Int)} (hv : 1 ≤ vars ∧ vars ≤ 40) (hc : Cl vars cls) (hcl : cls.length ≤ 300) (hs : ∀ s ∈ steps, s.2.length ≤ 12 ∧ ∀ x ∈ s.2, litOK vars x) (hsl : steps.length ≤ 200) :
    Ret Try.prog Γ 86 [cnfV vars cls, .isl ex 2 (stepsV steps)] σ (.tup [.int .i64 (checkP vars steps cls 0).1, .int .i64 (checkP vars steps cls 0).2]) σ := by
  generalize hR : checkP vars steps cls 0 = R
  refine ret_of c86_ok rfl ?_
  simp (disch := omega) only [c86, cnfV, go_sem]
  refine SRun.boxR (by simp [ev, look, V.cells, V.one]) ?_
  intro b2 hb2
  have g2 := upd_same σ b2 [.int .i64 vars, .isl false 1 (clsV cls)]
  have hle2 : ∀ c x, σ c = some x → upd σ b2 [.int .i64 vars, .isl false 1 (clsV cls)] c = some x := le_upd hb2
  have hsrc : ∀ s : St, srcV s 1 (.isl false 1 (clsV cls)) = some (clsV cls, (clsV cls).length) := fun s => by simp [srcV, flat_cls]
  have hcell : (clsV cls).length = cls.length := clsV_len cls
  have hfl := flat_cls cls
  simp (disch := omega) only [go_sem]
  generalize upd σ b2 [.int .i64 vars, .isl false 1 (clsV cls)] = s2 at *
  rw [W_draw]
  refine DRun.start (DRun.mixNQ (fun T s => ∃ q b6, OwnL (upd emp b6 [.int .i64 0, .isl true 0 []]) 1 (clsV cls) q s ∧ disj s s2 ∧ look T 16 = .agg [.int .i64 vars, q] ∧ look T 6 = .ptr b6 0 ∧ look T 1 = .isl ex 2 (stepsV steps)) rfl ?_ ?_)
  · simp (disch := omega) only [g2, go_sem]
    refine DS.wr2 (WrF.call (cloneL_ok (σ := emp) (x := .isl false 1 (clsV cls)) (.inl ⟨_, _, _, rfl⟩) (hsrc _) (by omega)) ⟨[], rfl, rfl⟩) rfl ?_ ?_
    · rintro r s ho hd
      simp (disch := omega) only [ho.one.1, ho.one.2, go_sem]
      refine DS.wrQ WrF.alloc rfl ?_
      rintro _ s3 ⟨b6, hb6, rfl, rfl⟩ hd2
      simp (disch := omega) only [go_sem]
      have hoL : OwnL emp 1 (clsV cls) r s := ⟨by rw [hfl]; exact ho, clsK_ok cls⟩
      exact ⟨r, b6, hoL.ext hb6, hd2, rfl, rfl⟩
    · refine DS.wrQ WrF.alloc rfl ?_
      rintro _ s3 ⟨b6, hb6, rfl, rfl⟩ hd2
      simp (disch := omega) only [go_sem]
      refine DS.wrQ (WrF.call (cloneL_ok (x := .isl false 1 (clsV cls)) (.inl ⟨_, _, _, rfl⟩) (hsrc _) (by omega)) ⟨[], rfl, rfl⟩) rfl ?_
      rintro r s ho hd
      simp (disch := omega) only [ho.one.1, ho.one.2, go_sem]
      exact ⟨r, b6, ⟨by rw [hfl]; exact ho, clsK_ok cls⟩, hd, rfl, rfl⟩
  rintro T s ⟨q0, b6, ho0, hd0, t16, t6, t1⟩
  have ho := ho0.cup hd0
  rw [cup_new] at ho
  have hb6 : s2 b6 = none := by
    rcases hd0 b6 with h | h
    · rw [ho0.get (upd_same _ _ _)] at h; cases h
    · exact h
  have g6 := ho.get (upd_same _ b6 _)
  have ho1 := ho.upd (c' := [.int .i64 vars, q0]) (upd_same _ b6 _)
  rw [upd_upd] at ho1
  generalize cup s s2 = s3 at *
  simp (disch := omega) only [t16, t6, t1, g6, ho.one, ho.cells, go_sem]
  generalize upd s3 b6 [.int .i64 vars, q0] = s4 at *
  refine W_loopC (α := Nat × List (List Int) × V × St) (fun p => p.1 ≤ steps.length ∧ checkP vars (steps.drop p.1) p.2.1 p.1 = R ∧ Cl vars p.2.1 ∧ p.2.1.length ≤ 300 + p.1 ∧ OwnL (upd s2 b6 [.int .i64 vars, p.2.2.1]) 1 (clsV p.2.1) p.2.2.1 p.2.2.2) (fun p => [(1, .isl ex 2 (stepsV steps)), (6, .ptr b6 0), (17, .isl ex 2 (stepsV steps)), (18, .int .i64 steps.length), (19, .int .i64 (p.1 : Nat))]) (fun p => p.2.2.2) (fun p => steps.length - p.1) (0, cls, q0, s4) ⟨by simp, hR, hc, by simp only; omega, ho1⟩ (by simp (disch := omega) only [subT, Int.natCast_add, Int.cast_ofNat_Int, t1, t6, go_sem] <;> (repeat' apply And.intro) <;> first | rfl | (congr 1; omega) | assumption) rfl ?_
  clear ho1 g6 ho hd0 ho0 t16 t6 t1
  rintro ⟨i, cs, q, s5⟩ ⟨hi, hck, hcs, hcsl, ho⟩ ih
  dsimp only at hi hck hcs hcsl ho
  have g6 := ho.get (upd_same _ b6 _)
  have back : ∀ c x, σ c = some x → s5 c = some x := fun c x h => ho.get (b := c) (by
    have h2 := hle2 c x h
    rw [upd_ne _ _ (fun e => by subst e; rw [hb6] at h2; cases h2)]; exact h2)
  simp (disch := omega) only [go_sem]
  first | refine iteW_dec (fun h3 => ?_) (fun h3 => ?_) | refine iteW_of (fun h3 => ?_) (fun h3 => ?_)
  · have hlt : i < steps.length := by omega
    have hm := getD_mem (false, []) hlt
    rw [drop_cons (false, []) hlt] at hck
    simp (disch := omega) only [go_sem]
    generalize steps.getD i (false, []) = s at hm hck ⊢
    obtain ⟨del, c⟩ := s
    obtain ⟨hc12, hclit⟩ := hs _ hm
    dsimp only at hc12 hclit ⊢
    refine SRun.allocR ?_
    intro b8 hb8
    have hoe := ho.ext (z := [.bool del, .isl false 1 (ints c)]) hb8
    have e86 : b8 ≠ b6 := fun e => by subst e; rw [g6] at hb8; cases hb8
    have g66 : ∀ z, upd s5 b8 z b6 = some [.int .i64 vars, q] := fun z => by rw [upd_ne _ _ e86.symm]; exact g6
    have g8 : upd s5 b8 [.bool del, .isl false 1 (ints c)] b8 = some [.bool del, .isl false 1 (ints c)] := upd_same _ _ _
    have g68 := g66 [.bool del, .isl false 1 (ints c)]
    simp only [checkP] at hck
    simp (disch := omega) only [go_sem]
    have back8 : ∀ d x, σ d = some x → upd s5 b8 [.bool del, .isl false 1 (ints c)] d = some x := fun d x h => le_upd hb8 _ _ (back d x h)
    have c40 : ∀ x ∈ c, litOK 40 x := fun x hx => by have := hclit x hx; exact ⟨this.1, by have := this.2; omega, by have := this.2; omega⟩
    have hn8 : s2 b8 = none := by
      cases e : s2 b8 with
      | none => rfl
      | some z => rw [ho.get (b := b8) (c := z) (by rw [upd_ne _ _ e86]; exact e)] at hb8; cases hb8
    have next : ∀ (cs' : List (List Int)) (r : V) (s9 : St), OwnL (upd (upd s2 b6 [.int .i64 vars, q]) b8 [.bool del, .isl false 1 (ints c)]) 1 (clsV cs') r s9 → ∃ s10, (∀ d x, s10 d = some x → upd s9 b6 [.int .i64 vars, r] d = some x) ∧ OwnL (upd s2 b6 [.int .i64 vars, r]) 1 (clsV cs') r s10 := fun cs' r s9 h => by
      have h1 := h.upd (b := b6) (c := [.int .i64 vars, q]) (c' := [.int .i64 vars, r]) (by rw [upd_ne _ _ e86.symm, upd_same])
      rw [upd_comm _ e86.symm, upd_upd, upd_comm _ e86] at h1
      exact h1.drop (by rw [upd_ne _ _ e86]; exact hn8)
    generalize hs8 : upd s5 b8 [.bool del, .isl false 1 (ints c)] = s8 at *
    cases del with
    | true =>
      simp only [cond_true] at hck
      simp (disch := omega) only [g8, go_sem]
      refine SRun.callR (inOrderR_ok (by omega) c40) ⟨[], rfl, rfl⟩ rfl ?_
      simp (disch := omega) only [g68, stepW_len_own hoe, clsV_len, go_sem]
      refine W_loopC (α := Nat) (fun k => k ≤ cs.length ∧ findC cs c k = findC cs c cs.length) (fun k => [(1, .isl ex 2 (stepsV steps)), (6, .ptr b6 0), (7, .int .i64 (i : Nat)), (9, intsV (ordP c)), (10, .int .i64 ((k : Int) - 1)), (17, .isl ex 2 (stepsV steps)), (18, .int .i64 steps.length), (19, .int .i64 (i : Nat))]) (fun _ => s8) (fun k => k) cs.length ⟨Nat.le_refl _, rfl⟩ (by simp (disch := omega) only [subT, Int.natCast_add, Int.cast_ofNat_Int, go_sem] <;> (repeat' apply And.intro) <;> first | rfl | (congr 1; omega) | assumption) rfl ?_
      rintro k ⟨hk, hf⟩ ih2
      rcases Nat.eq_zero_or_pos k with rfl | hk1
      · have hf0 : findC cs c cs.length = none := hf.symm
        rw [hf0] at hck
        have hR2 : (i, (6 : Int)) = R := hck
        subst hR2
        simp (disch := omega) only [go_sem]
        exact W_retC c86_ok rfl (Conv.drop _ back8) ⟨rfl, rfl⟩
      · obtain ⟨m, rfl⟩ : ∃ m, k = m + 1 := ⟨k - 1, by omega⟩
        have hj : (((m + 1 : Nat) : Int) - 1) = (m : Int) := by omega
        have d0 : decide ((m : Int) ≥ 0) = true := decide_eq_true (by omega)
        have hcne : clsV cs ≠ [] := fun e => by have := clsV_len cs; rw [e] at this; simp at this; omega
        obtain ⟨bq, cap, hq, hbq, hcap, hnq, _⟩ := hoe.at hcne
        subst hq
        rw [flat_cls] at hbq
        have hget : (clsV cs)[m]? = some (.isl false 1 (ints (cs.getD m []))) := by
          have h : m < cs.length := by omega
          simp [clsV, intsV, List.getD, h]
        have hmc := hcs _ (getD_mem [] (by omega : m < cs.length))
        have hm40 : ∀ x ∈ cs.getD m [], litOK 40 x := fun x hx => by have := hmc.2 x hx; exact ⟨this.1, by have := this.2; omega, by have := this.2; omega⟩
        have hff : findC cs c (m + 1) = if ordP (cs.getD m []) = ordP c then some m else findC cs c m := rfl
        have hdel := fun Γ => deleteC_ok (Γ := Γ) hoe (i := m) (by omega) (by omega)
        simp (disch := omega) only [hj, d0, g68, clsV_len, hbq, hget, go_sem]
        generalize cs.getD m [] = cm at *
        refine SRun.callR (inOrderR_ok (by omega) hm40) ⟨[], rfl, rfl⟩ rfl ?_
        simp (disch := omega) only [intsV, go_sem]
        refine SRun.callR (equalI_ok (by have := ordP_len cm; omega)) ⟨[], rfl, rfl⟩ rfl ?_
        rw [beq_ord]
        by_cases he : ordP cm = ordP c
        · have d1 := decide_eq_true he
          rw [if_pos he] at hff
          rw [← hf, hff] at hck
          dsimp only at hck
          rw [d1]
          simp (disch := omega) only [hj, g68, clsV_len, go_sem]
          simp only [clsV_len] at hdel
          refine SRun.callQ (hdel _) ⟨[], rfl, rfl⟩ rfl ?_
          rintro r s9 ho9
          have g69 := ho9.get (b := b6) (by rw [upd_ne _ _ e86.symm, upd_same])
          obtain ⟨s10, r1, r2⟩ := next _ _ _ (by simpa only [clsV_len] using ho9)
          simp (disch := omega) only [g69, ho9.one, ho9.cells, go_sem]
          refine W_freezeL (T' := [(1, .isl ex 2 (stepsV steps)), (6, .ptr b6 0), (17, .isl ex 2 (stepsV steps)), (18, .int .i64 steps.length), (19, .int .i64 ((i : Int) + 1))]) (σ' := s10) r1 ⟨.refl _, .refl _, .refl _, .refl _, .refl _, trivial⟩ ?_
          refine ih (i + 1, cs.take m ++ cs.drop (m + 1), r, s10) _ _ ⟨by simp only; omega, hck, fun d hd => ?_, by simp; omega, r2⟩ (by simp only; omega) (by simp (disch := omega) only [subT, Int.natCast_add, Int.cast_ofNat_Int, go_sem] <;> (repeat' apply And.intro) <;> first | rfl | (congr 1; omega) | assumption) rfl
          exact hcs d ((List.mem_append.1 hd).elim (fun h => List.mem_of_mem_take h) (fun h => List.mem_of_mem_drop h))
        · have d1 := decide_eq_false he
          rw [if_neg he] at hff
          rw [d1]
          simp (disch := omega) only [go_sem]
          refine ih2 m _ _ ⟨by omega, by rw [← hff]; exact hf⟩ (by omega) (by simp (disch := omega) only [subT, Int.natCast_add, Int.cast_ofNat_Int, go_sem] <;> (repeat' apply And.intro) <;> first | rfl | (congr 1; omega) | assumption) rfl
    | false =>
      simp only [cond_false] at hck
      simp (disch := omega) only [g68, g8, go_sem]
      refine SRun.callR (Ret.lendL (isRup_ok (σ := emp) (ex2 := false) (vars := vars) (cls := cs) (c := c) (by omega) (hcs.ok (by omega)) hclit (by omega)) (by exact ⟨frz_agg (by exact ⟨.refl _, hoe.frz (fun _ _ => rfl) (fun _ _ => rfl), trivial⟩) (by simp [V.one]), .refl _, trivial⟩) (Plain.bool _)) ⟨[], rfl, rfl⟩ rfl ?_
      have hrat := fun Γ => Ret.lendL (σ := s8) (isRat_ok (Γ := Γ) (σ := emp) (vars := vars) (cls := cs) (c := c) (by omega) (hcs.ok (by omega)) hclit (by omega) (fun d hd => by have := (hcs d hd).1; omega)) (args := [.agg [.int .i64 vars, q], .isl false 1 (ints c)]) (by exact ⟨frz_agg (by exact ⟨.refl _, hoe.frz (fun _ _ => rfl) (fun _ _ => rfl), trivial⟩) (by simp [V.one]), .refl _, trivial⟩) (Plain.bool _)
      cases hr1 : rupP vars cs c with
      | false =>
        rw [hr1] at hck
        simp (disch := omega) only [g68, g8, go_sem]
        refine SRun.callR (hrat _) ⟨[], rfl, rfl⟩ rfl ?_
        cases hr2 : ratP vars cs c with
        | false =>
          rw [hr2] at hck
          have hR2 : (i, (8 : Int)) = R := hck
          subst hR2
          simp (disch := omega) only [go_sem]
          exact W_retC c86_ok rfl (Conv.drop _ back8) ⟨rfl, rfl⟩
        | true =>
          rw [hr2] at hck
          simp only [Bool.not_false, Bool.not_true, Bool.and_false, Bool.and_true, cond_false] at hck
          simp (disch := omega) only [g68, g8, go_sem]
          first | refine iteW_dec (fun h0 => ?_) (fun h0 => ?_) | refine iteW_of (fun h0 => ?_) (fun h0 => ?_)
          · have h00 : (c.length == 0) = true := by simpa using (by omega : c.length = 0)
            rw [h00] at hck
            have hR2 : (i, (0 : Int)) = R := hck
            subst hR2
            simp (disch := omega) only [go_sem]
            exact W_retC c86_ok rfl (Conv.drop _ back8) ⟨rfl, rfl⟩
          · have h00 : (c.length == 0) = false := by simpa using (by omega : ¬ c.length = 0)
            rw [h00] at hck
            simp only [cond_false] at hck
            simp (disch := omega) only [g68, g8, go_sem]
            refine SRun.appL hoe rfl (cls1_ok c) (by simp only [clsV_len, List.length_singleton]; omega) ?_
            intro r s9 ho9
            rw [cls_app] at ho9
            have g69 := ho9.get (b := b6) (by rw [upd_ne _ _ e86.symm, upd_same])
            obtain ⟨s10, r1, r2⟩ := next _ _ _ ho9
            simp (disch := omega) only [g69, ho9.one, ho9.cells, go_sem]
            refine W_freezeL (T' := [(1, .isl ex 2 (stepsV steps)), (6, .ptr b6 0), (17, .isl ex 2 (stepsV steps)), (18, .int .i64 steps.length), (19, .int .i64 ((i : Int) + 1))]) (σ' := s10) r1 ⟨.refl _, .refl _, .refl _, .refl _, .refl _, trivial⟩ ?_
            exact ih (i + 1, cs ++ [c], r, s10) _ _ ⟨by simp only; omega, hck, hcs.app (Cl.one hc12 hclit), by simp; omega, r2⟩ (by simp only; omega) (by simp (disch := omega) only [subT, Int.natCast_add, Int.cast_ofNat_Int, go_sem] <;> (repeat' apply And.intro) <;> first | rfl | (congr 1; omega) | assumption) rfl
      | true =>
        rw [hr1] at hck
        simp only [Bool.not_true, Bool.false_and, cond_false] at hck
        simp (disch := omega) only [g68, g8, go_sem]
        first | refine iteW_dec (fun h0 => ?_) (fun h0 => ?_) | refine iteW_of (fun h0 => ?_) (fun h0 => ?_)
        · have h00 : (c.length == 0) = true := by simpa using (by omega : c.length = 0)
          rw [h00] at hck
          have hR2 : (i, (0 : Int)) = R := hck
          subst hR2
          simp (disch := omega) only [go_sem]
          exact W_retC c86_ok rfl (Conv.drop _ back8) ⟨rfl, rfl⟩
        · have h00 : (c.length == 0) = false := by simpa using (by omega : ¬ c.length = 0)
          rw [h00] at hck
          simp only [cond_false] at hck
          simp (disch := omega) only [g68, g8, go_sem]
          refine SRun.appL hoe rfl (cls1_ok c) (by simp only [clsV_len, List.length_singleton]; omega) ?_
          intro r s9 ho9
          rw [cls_app] at ho9
          have g69 := ho9.get (b := b6) (by rw [upd_ne _ _ e86.symm, upd_same])
          obtain ⟨s10, r1, r2⟩ := next _ _ _ ho9
          simp (disch := omega) only [g69, ho9.one, ho9.cells, go_sem]
          refine W_freezeL (T' := [(1, .isl ex 2 (stepsV steps)), (6, .ptr b6 0), (17, .isl ex 2 (stepsV steps)), (18, .int .i64 steps.length), (19, .int .i64 ((i : Int) + 1))]) (σ' := s10) r1 ⟨.refl _, .refl _, .refl _, .refl _, .refl _, trivial⟩ ?_
          exact ih (i + 1, cs ++ [c], r, s10) _ _ ⟨by simp only; omega, hck, hcs.app (Cl.one hc12 hclit), by simp; omega, r2⟩ (by simp only; omega) (by simp (disch := omega) only [subT, Int.natCast_add, Int.cast_ofNat_Int, go_sem] <;> (repeat' apply And.intro) <;> first | rfl | (congr 1; omega) | assumption) rfl
  · obtain rfl : i = steps.length := by omega
    rw [List.drop_length] at hck
    have hR2 : (steps.length, (3 : Int)) = R := hck
    subst hR2
    simp (disch := omega) only [go_sem]
    exact W_retC c86_ok rfl (Conv.drop _ back) ⟨rfl, rfl⟩
end Go.Proofs.Ytlojopaebdnacaa.Lg
/- Checks of proofs, of the program and of the reference. -/
set_option linter.unusedSimpArgs false
set_option linter.unusedVariables false
namespace Go.Proofs.Ytlojopaebdnacaa.Lg
open Go
attribute [local irreducible] SRun DS DRun
variable {Γ : St} {σ σ0 : St}
theorem cl_of {vars : Int} {cls : List (List Int)} (h : cnfB vars cls = true) : Cl vars cls := fun c hc => by
  simp only [cnfB, Bool.and_eq_true, List.all_eq_true] at h
  have := h.2 c hc
  simp only [clauseB, Bool.and_eq_true, decide_eq_true_eq, List.all_eq_true] at this
  exact ⟨this.1, fun x hx => litB_iff.1 (this.2 x hx)⟩
theorem steps_of {vars : Int} {st : List (Bool × List Int)} (h : stepsB vars st = true) : st.length ≤ 200 ∧ ∀ s ∈ st, s.2.length ≤ 12 ∧ ∀ x ∈ s.2, litOK vars x := by
  simp only [stepsB, Bool.and_eq_true, decide_eq_true_eq, List.all_eq_true] at h
  refine ⟨h.1, fun s hs => ?_⟩
  have := h.2 s hs
  simp only [stepB, clauseB, Bool.and_eq_true, decide_eq_true_eq, List.all_eq_true] at this
  exact ⟨this.1, fun x hx => litB_iff.1 (this.2 x hx)⟩
theorem CheckProof_ok {ex : Bool} {vars : Int} {cls : List (List Int)} {st : List (Bool × List Int)} (hb : cnfB vars cls = true) (hv : 1 ≤ vars) (hs : stepsB vars st = true) :
    Ret Try.prog Γ 37 [cnfV vars cls, .isl ex 2 (stepsV st)] σ (.tup [.int .i64 (checkP vars st cls 0).1, .int .i64 (checkP vars st cls 0).2]) σ := by
  obtain ⟨hc, hv0, hv40, hcl⟩ := clsOK_of hb
  obtain ⟨hsl, hs1⟩ := steps_of hs
  have hgt : decide ((st.length : Int) > 4096) = false := decide_eq_false (by omega)
  refine ret_of c37_ok rfl ?_
  simp (disch := omega) only [c37, cnfV, hgt, go_sem]
  refine SRun.boxR (by simp [ev, look, V.cells, V.one]) ?_
  intro b2 hb2
  simp (disch := omega) only [hgt, go_sem]
  refine SRun.callR (isCnf_ok hc.1) ⟨[], rfl, rfl⟩ rfl ?_
  simp (disch := omega) only [hb, go_sem]
  refine SRun.callR (areSteps_ok (by omega) (by omega) fun s h => by have := (hs1 s h).1; omega) ⟨[], rfl, rfl⟩ rfl ?_
  simp (disch := omega) only [hs, go_sem]
  refine SRun.callR (checkProof_ok ⟨hv, hv40⟩ (cl_of hb) hcl hs1 hsl) ⟨[], rfl, rfl⟩ rfl ?_
  simp (disch := omega) only [go_sem]
  exact W_retC c37_ok rfl (Conv.drop _ (le_upd hb2)) ⟨rfl, rfl⟩
def findV (cls : List (List Int)) (c : List Int) : Int := match findC cls c cls.length with | some k => (k : Int) | none => -1
theorem l03Find_ok {ex ex2 : Bool} {cls : List (List Int)} {c : List Int} (hl : cls.length ≤ 1000000) (hc : Cl 40 cls) (hc12 : c.length ≤ 12) (hx : ∀ x ∈ c, litOK 40 x) :
    Ret Try.prog Γ 122 [.isl ex 1 (clsV cls), .isl ex2 1 (ints c)] σ (.int .i64 (findV cls c)) σ := by
  refine ret_of c122_ok rfl ?_
  simp (disch := omega) only [c122, go_sem]
  refine SRun.callR (l01SortedR_ok (by omega) hx) ⟨[], rfl, rfl⟩ rfl ?_
  simp (disch := omega) only [go_sem]
  refine W_loopC (α := Nat) (fun k => k ≤ cls.length ∧ findC cls c k = findC cls c cls.length) (fun k => [(0, .isl ex 1 (clsV cls)), (5, intsV (ordP c)), (7, .int .i64 ((k : Int) - 1))]) (fun _ => σ) (fun k => k) cls.length ⟨Nat.le_refl _, rfl⟩ (by simp (disch := omega) only [subT, Int.natCast_add, Int.cast_ofNat_Int, go_sem] <;> (repeat' apply And.intro) <;> first | rfl | (congr 1; omega) | assumption) rfl ?_
  rintro k ⟨hk, hf⟩ ih
  rcases Nat.eq_zero_or_pos k with rfl | hk1
  · have hf0 : findC cls c cls.length = none := hf.symm
    simp (disch := omega) only [go_sem]
    refine W_retR c122_ok rfl ⟨?_, rfl⟩
    simp only [look, ev, V.bool.injEq, V.int.injEq, V.str.injEq, V.tup.injEq, V.agg.injEq, V.isl.injEq, List.cons.injEq, true_and, and_true, Nat.reduceEqDiff, Nat.reduceAdd, Nat.reduceSub, Nat.reduceMul, Nat.reducePow, Nat.reduceDiv, Nat.reduceMod, Int.reduceToNat, Nat.reduceLeDiff, Nat.reduceLT, Int.reduceEq, Int.reduceLT, Int.reduceLE, Int.reduceGT, Int.reduceGE, Int.reduceNeg, Int.reduceSub, Int.reduceAdd, Int.reduceMul, Int.reducePow, ne_eq, reduceCtorEq, ↓reduceIte]
    unfold findV; rw [hf0]
  · obtain ⟨m, rfl⟩ : ∃ m, k = m + 1 := ⟨k - 1, by omega⟩
    have hj : (((m + 1 : Nat) : Int) - 1) = (m : Int) := by omega
    have d0 : decide ((m : Int) ≥ 0) = true := decide_eq_true (by omega)
    have hm := hc _ (getD_mem [] (by omega : m < cls.length))
    have hff : findC cls c (m + 1) = if ordP (cls.getD m []) = ordP c then some m else findC cls c m := rfl
    simp (disch := omega) only [hj, d0, intsV, go_sem]
    generalize cls.getD m [] = cm at *
    refine SRun.callR (l01SortedR_ok (by omega) hm.2) ⟨[], rfl, rfl⟩ rfl ?_
    simp (disch := omega) only [intsV, go_sem]
    refine SRun.callR (l01Same_ok (by have := ordP_len c; omega)) ⟨[], rfl, rfl⟩ rfl ?_
    rw [beq_ord]
    by_cases he : ordP cm = ordP c
    · have d1 : decide (ordP c = ordP cm) = true := decide_eq_true he.symm
      rw [if_pos he] at hff
      rw [d1]
      simp (disch := omega) only [go_sem]
      refine W_retR c122_ok rfl ⟨?_, rfl⟩
      simp only [look, ev, V.bool.injEq, V.int.injEq, V.str.injEq, V.tup.injEq, V.agg.injEq, V.isl.injEq, List.cons.injEq, true_and, and_true, Nat.reduceEqDiff, Nat.reduceAdd, Nat.reduceSub, Nat.reduceMul, Nat.reducePow, Nat.reduceDiv, Nat.reduceMod, Int.reduceToNat, Nat.reduceLeDiff, Nat.reduceLT, Int.reduceEq, Int.reduceLT, Int.reduceLE, Int.reduceGT, Int.reduceGE, Int.reduceNeg, Int.reduceSub, Int.reduceAdd, Int.reduceMul, Int.reducePow, ne_eq, reduceCtorEq, ↓reduceIte]
      unfold findV; rw [← hf, hff]
    · have d1 : decide (ordP c = ordP cm) = false := decide_eq_false fun e => he e.symm
      rw [if_neg he] at hff
      rw [d1]
      simp (disch := omega) only [go_sem]
      refine ih m _ _ ⟨by omega, by rw [← hff]; exact hf⟩ (by omega) (by simp (disch := omega) only [subT, Int.natCast_add, Int.cast_ofNat_Int, go_sem] <;> (repeat' apply And.intro) <;> first | rfl | (congr 1; omega) | assumption) rfl
theorem Cl.more {vars : Int} {cls : List (List Int)} (h : Cl vars cls) (hv : vars ≤ 40) : Cl 40 cls := fun c hc => ⟨(h c hc).1, fun x hx => by have := (h c hc).2 x hx; exact ⟨this.1, by have := this.2; omega, by have := this.2; omega⟩⟩
theorem src_front {xs : List V} {b cap i : Nat} (hb : σ b = some xs) (hi : i ≤ xs.length) : srcV σ 1 (.msl b 1 (if (cap : Int) = 0 then 0 else 0) ((i : Int) - 0).toNat ((cap : Int) - 0).toNat) = some (xs.take i, i) := by
  have e1 : (if (cap : Int) = 0 then 0 else 0 : Nat) = 0 := by split <;> rfl
  rw [e1, show ((i : Int) - 0).toNat = i by omega]
  have h5 : 0 + i ≤ xs.length := by omega
  simp only [srcV, if_true, hb, Nat.mul_one, if_pos h5, List.drop_zero]
theorem src_tail {xs : List V} {b cap i : Nat} (hb : σ b = some xs) (hi : i < xs.length) (hc : xs.length ≤ cap) : srcV σ 1 (.msl b 1 (if (cap : Int) = (i : Int) + 1 then 0 else ((i : Int) + 1).toNat) ((xs.length : Int) - ((i : Int) + 1)).toNat ((cap : Int) - ((i : Int) + 1)).toNat) = some (xs.drop (i + 1), xs.length - (i + 1)) := by
  have e2 : ((xs.length : Int) - ((i : Int) + 1)).toNat = xs.length - (i + 1) := by omega
  rw [e2]
  by_cases hcap : (cap : Int) = (i : Int) + 1
  · have e3 : xs.length - (i + 1) = 0 := by omega
    have e4 : xs.drop (i + 1) = [] := List.drop_of_length_le (by omega)
    rw [if_pos hcap, e3, e4]
    simp [srcV, hb]
  · rw [if_neg hcap, show ((i : Int) + 1).toNat = i + 1 by omega]
    have h5 : i + 1 + (xs.length - (i + 1)) * 1 ≤ xs.length := by omega
    simp only [srcV, if_true, hb, if_pos h5, Option.some.injEq, Prod.mk.injEq, and_true]
    rw [List.take_of_length_le (by rw [List.length_drop]; omega)]
theorem WrF.appS {P : Program} {T : Ts} {es len : Nat} {cells new : List V} {m : Nat} {d : Option Nat} {by_ : Nat} {s x : Opd} (h : OwnS σ0 es cells len (ev Γ T s) σ) (hsrc : srcV σ es (ev Γ T x) = some (new, m)) (hnl : new.length = m * es) (hfit : (len + m) * by_ ≤ 140737488355328) :
    WrF P Γ σ T ⟨d, none, .app es by_ s x⟩ fun r σ' => OwnS σ0 es (cells ++ new) (len + m) r σ' :=
  WrF.of fun T' hT => InsOK.appO (by rw [hT s (by simp [I.opds])]; exact h) (by rw [hT x (by simp [I.opds])]; exact hsrc) hnl hfit
set_option maxHeartbeats 4000000 in
theorem l03Check_ok {ex : Bool} {vars : Int} {cls : List (List Int)} {steps : List (Bool × List Int)} (hv : 1 ≤ vars ∧ vars ≤ 40) (hc : Cl vars cls) (hcl : cls.length ≤ 300) (hs : ∀ s ∈ steps, s.2.length ≤ 12 ∧ ∀ x ∈ s.2, litOK vars x) (hsl : steps.length ≤ 200) :
    Ret Try.prog Γ 88 [cnfV vars cls, .isl ex 2 (stepsV steps)] σ (.tup [.int .i64 (checkP vars steps cls 0).1, .int .i64 (checkP vars steps cls 0).2]) σ := by
  generalize hR : checkP vars steps cls 0 = R
  refine ret_of c88_ok rfl ?_
  simp (disch := omega) only [c88, cnfV, go_sem]
  refine SRun.boxR (by simp [ev, look, V.cells, V.one]) ?_
  intro b2 hb2
  have g2 := upd_same σ b2 [.int .i64 vars, .isl false 1 (clsV cls)]
  have hle2 : ∀ c x, σ c = some x → upd σ b2 [.int .i64 vars, .isl false 1 (clsV cls)] c = some x := le_upd hb2
  simp (disch := omega) only [go_sem]
  generalize upd σ b2 [.int .i64 vars, .isl false 1 (clsV cls)] = s2 at *
  refine SRun.appL (OwnL.nil 1 1) rfl (clsK_ok cls) (by simp only [List.length_nil, clsV_len]; omega) ?_
  intro q0 s3 ho0
  rw [List.nil_append] at ho0
  simp (disch := omega) only [go_sem]
  refine W_loopC (α := Nat × List (List Int) × V × St) (fun p => p.1 ≤ steps.length ∧ checkP vars (steps.drop p.1) p.2.1 p.1 = R ∧ Cl vars p.2.1 ∧ p.2.1.length ≤ 300 + p.1 ∧ OwnL s2 1 (clsV p.2.1) p.2.2.1 p.2.2.2) (fun p => [(1, .isl ex 2 (stepsV steps)), (2, .ptr b2 0), (6, p.2.2.1), (7, .int .i64 (p.1 : Nat))]) (fun p => p.2.2.2) (fun p => steps.length - p.1) (0, cls, q0, s3) ⟨by simp, hR, hc, by simp only; omega, ho0⟩ (by simp (disch := omega) only [subT, Int.natCast_add, Int.cast_ofNat_Int, go_sem] <;> (repeat' apply And.intro) <;> first | rfl | (congr 1; omega) | assumption) rfl ?_
  clear ho0
  rintro ⟨i, cs, q, s5⟩ ⟨hi, hck, hcs, hcsl, ho⟩ ih
  dsimp only at hi hck hcs hcsl ho
  have g5 := ho.get g2
  have back : ∀ c x, σ c = some x → s5 c = some x := fun c x h => ho.le c x (hle2 c x h)
  simp (disch := omega) only [go_sem]
  first | refine iteW_dec (fun h3 => ?_) (fun h3 => ?_) | refine iteW_of (fun h3 => ?_) (fun h3 => ?_)
  · have hlt : i < steps.length := by omega
    have hm := getD_mem (false, []) hlt
    rw [drop_cons (false, []) hlt] at hck
    simp (disch := omega) only [go_sem]
    generalize hse : steps.getD i (false, []) = s at hm hck ⊢
    obtain ⟨del, c⟩ := s
    obtain ⟨hc12, hclit⟩ := hs _ hm
    dsimp only at hc12 hclit ⊢
    simp only [checkP] at hck
    have c40 : ∀ x ∈ c, litOK 40 x := fun x hx => by have := hclit x hx; exact ⟨this.1, by have := this.2; omega, by have := this.2; omega⟩
    have hfrz : Frz s5 emp q (.isl false 1 (clsV cs)) := ho.frz (fun _ _ => rfl) (fun _ _ => rfl)
    cases del with
    | true =>
      simp only [cond_true] at hck
      simp (disch := omega) only [go_sem]
      refine SRun.callR (Ret.lendL (l03Find_ok (σ := emp) (ex := false) (ex2 := false) (cls := cs) (c := c) (by omega) (hcs.more hv.2) hc12 c40) (by exact ⟨hfrz, .refl _, trivial⟩) (Plain.int _ _)) ⟨[], rfl, rfl⟩ rfl ?_
      cases hf : findC cs c cs.length with
      | none =>
        have hfv : findV cs c = -1 := by unfold findV; rw [hf]
        rw [hf] at hck
        have hR2 : (i, (6 : Int)) = R := hck
        subst hR2
        simp (disch := omega) only [hfv, go_sem]
        exact W_retC c88_ok rfl (Conv.drop _ back) ⟨rfl, rfl⟩
      | some k =>
        have hfv : findV cs c = (k : Int) := by unfold findV; rw [hf]
        have hk := findC_lt hf
        rw [hf] at hck
        dsimp only at hck
        have hcne : clsV cs ≠ [] := fun e => by have := clsV_len cs; rw [e] at this; simp at this; omega
        obtain ⟨bq, cap, hq, hbq, hcap, hnq, _⟩ := ho.at hcne
        subst hq
        rw [flat_cls] at hbq
        rw [clsV_len] at hcap
        have d2 : decide ((k : Int) < 0) = false := decide_eq_false (by omega)
        simp (disch := omega) only [hfv, d2, go_sem]
        rw [W_draw]
        refine DRun.start (DRun.mixO ho rfl ?_)
        intro s6 hs6
        simp (disch := omega) only [clsV_len, go_sem]
        obtain ⟨_, _, hq6, hb6, _, _, hs6e⟩ := hs6.at hcne
        simp only [V.msl.injEq, true_and] at hq6
        obtain ⟨rfl, _, rfl⟩ := hq6
        rw [flat_cls] at hb6 hs6e
        have hkl : k ≤ (clsV cs).length := by rw [clsV_len]; omega
        have htk : (clsV cs).take k = clsV (cs.take k) := by simp [clsV, List.map_take]
        have hdr : (clsV cs).drop (k + 1) = clsV (cs.drop (k + 1)) := by simp [clsV, List.map_drop]
        have htl : (cs.take k).length = k := by simp; omega
        have hdl : (cs.drop (k + 1)).length = cs.length - (k + 1) := by simp
        refine DS.wrQ (WrF.appS (OwnS.nil _ _) (src_front hb6 hkl) (by rw [htk, clsV_len]; omega) (by omega)) rfl ?_
        intro r40 s7 ho7 hd7
        rw [List.nil_append, htk, Nat.zero_add] at ho7
        have ho7L : OwnL s6 1 (clsV (cs.take k)) r40 s7 := ⟨by rw [flat_cls, clsV_len, htl]; exact ho7, clsK_ok _⟩
        have ho8 := ho7L.cup hd7
        have hbc : cup s7 s2 bq = some (clsV cs) := cup_of_some (ho7L.get hb6)
        simp (disch := omega) only [go_sem]
        have hsrc44 := src_tail (cap := cap) (i := k) hbc (by rw [clsV_len]; omega) (by rw [clsV_len]; omega)
        rw [hdr, clsV_len] at hsrc44
        have ho8' : OwnS (cup s6 s2) 1 (clsV (cs.take k)) k r40 (cup s7 s2) := by have h := ho8.1; rw [flat_cls, clsV_len, htl] at h; exact h
        refine DRun.appO ho8' hsrc44 (by rw [clsV_len]; omega) (by omega) ?_
        intro r45 s8 ho9
        have happ : clsV (cs.take k) ++ clsV (cs.drop (k + 1)) = clsV (cs.take k ++ cs.drop (k + 1)) := by simp [clsV]
        have hnl : (clsV (cs.take k ++ cs.drop (k + 1))).length = k + (cs.length - (k + 1)) := by rw [clsV_len, List.length_append]; omega
        rw [happ, ← hnl] at ho9
        have ho9L : OwnL (cup s6 s2) 1 (clsV (cs.take k ++ cs.drop (k + 1))) r45 s8 := ⟨by rw [flat_cls]; exact ho9, clsK_ok _⟩
        rw [hs6e, cup_new] at ho9L
        obtain ⟨s10, r1, r2⟩ := ownL_less (σ := s2) ho9L (le_upd hnq)
        simp (disch := omega) only [go_sem]
        refine W_freezeL (T' := [(1, .isl ex 2 (stepsV steps)), (2, .ptr b2 0), (6, r45), (7, .int .i64 ((i : Int) + 1))]) (σ' := s10) r1 ⟨.refl _, .refl _, .refl _, .refl _, trivial⟩ ?_
        refine ih (i + 1, cs.take k ++ cs.drop (k + 1), r45, s10) _ _ ⟨by simp only; omega, hck, fun d hd => ?_, by simp; omega, r2⟩ (by simp only; omega) (by simp (disch := omega) only [subT, Int.natCast_add, Int.cast_ofNat_Int, go_sem] <;> (repeat' apply And.intro) <;> first | rfl | (congr 1; omega) | assumption) rfl
        exact hcs d ((List.mem_append.1 hd).elim (fun h => List.mem_of_mem_take h) (fun h => List.mem_of_mem_drop h))
    | false =>
      simp only [cond_false] at hck
      simp (disch := omega) only [g5, go_sem]
      have hlr := fun Γ => Ret.lendL (σ := s5) (args := [q, .int .i64 vars, .isl false 1 (ints c)]) (rupP_ok (Γ := Γ) (σ := emp) (ex := false) (ex2 := false) (vars := vars) (cls := cs) (c := c) (by omega) (hcs.ok (by omega)) hclit (by omega)) (by exact ⟨hfrz, .refl _, .refl _, trivial⟩) (Plain.bool _)
      have hlq := fun Γ => Ret.lendL (σ := s5) (args := [q, .int .i64 vars, .isl false 1 (ints c)]) (l03Rat_ok (Γ := Γ) (σ := emp) (ex := false) (vars := vars) (cls := cs) (c := c) (by omega) (hcs.ok (by omega)) hclit (by omega) (fun d hd => by have := (hcs d hd).1; omega)) (by exact ⟨hfrz, .refl _, .refl _, trivial⟩) (Plain.bool _)
      refine SRun.callR (hlr _) ⟨[], rfl, rfl⟩ rfl ?_
      cases hr1 : rupP vars cs c with
      | false =>
        rw [hr1] at hck
        simp (disch := omega) only [g5, go_sem]
        refine SRun.callR (hlq _) ⟨[], rfl, rfl⟩ rfl ?_
        cases hr2 : ratP vars cs c with
        | false =>
          rw [hr2] at hck
          have hR2 : (i, (8 : Int)) = R := hck
          subst hR2
          simp (disch := omega) only [go_sem]
          exact W_retC c88_ok rfl (Conv.drop _ back) ⟨rfl, rfl⟩
        | true =>
          rw [hr2] at hck
          simp only [Bool.not_false, Bool.not_true, Bool.and_false, Bool.and_true, cond_false] at hck
          simp (disch := omega) only [go_sem]
          first | refine iteW_dec (fun h0 => ?_) (fun h0 => ?_) | refine iteW_of (fun h0 => ?_) (fun h0 => ?_)
          · have h00 : (c.length == 0) = true := by simpa using (by omega : c.length = 0)
            rw [h00] at hck
            have hR2 : (i, (0 : Int)) = R := hck
            subst hR2
            simp (disch := omega) only [go_sem]
            exact W_retC c88_ok rfl (Conv.drop _ back) ⟨rfl, rfl⟩
          · have h00 : (c.length == 0) = false := by simpa using (by omega : ¬ c.length = 0)
            rw [h00] at hck
            simp only [cond_false] at hck
            simp (disch := omega) only [go_sem]
            refine SRun.appL ho rfl (cls1_ok c) (by simp only [clsV_len, List.length_singleton]; omega) ?_
            intro r s9 ho9
            rw [cls_app] at ho9
            simp (disch := omega) only [go_sem]
            exact ih (i + 1, cs ++ [c], r, s9) _ _ ⟨by simp only; omega, hck, hcs.app (Cl.one hc12 hclit), by simp; omega, ho9⟩ (by simp only; omega) (by simp (disch := omega) only [subT, Int.natCast_add, Int.cast_ofNat_Int, go_sem] <;> (repeat' apply And.intro) <;> first | rfl | (congr 1; omega) | assumption) rfl
      | true =>
        rw [hr1] at hck
        simp only [Bool.not_true, Bool.false_and, cond_false] at hck
        simp (disch := omega) only [go_sem]
        first | refine iteW_dec (fun h0 => ?_) (fun h0 => ?_) | refine iteW_of (fun h0 => ?_) (fun h0 => ?_)
        · have h00 : (c.length == 0) = true := by simpa using (by omega : c.length = 0)
          rw [h00] at hck
          have hR2 : (i, (0 : Int)) = R := hck
          subst hR2
          simp (disch := omega) only [go_sem]
          exact W_retC c88_ok rfl (Conv.drop _ back) ⟨rfl, rfl⟩
        · have h00 : (c.length == 0) = false := by simpa using (by omega : ¬ c.length = 0)
          rw [h00] at hck
          simp only [cond_false] at hck
          simp (disch := omega) only [go_sem]
          refine SRun.appL ho rfl (cls1_ok c) (by simp only [clsV_len, List.length_singleton]; omega) ?_
          intro r s9 ho9
          rw [cls_app] at ho9
          simp (disch := omega) only [go_sem]
          exact ih (i + 1, cs ++ [c], r, s9) _ _ ⟨by simp only; omega, hck, hcs.app (Cl.one hc12 hclit), by simp; omega, ho9⟩ (by simp only; omega) (by simp (disch := omega) only [subT, Int.natCast_add, Int.cast_ofNat_Int, go_sem] <;> (repeat' apply And.intro) <;> first | rfl | (congr 1; omega) | assumption) rfl
  · obtain rfl : i = steps.length := by omega
    rw [List.drop_length] at hck
    have hR2 : (steps.length, (3 : Int)) = R := hck
    subst hR2
    simp (disch := omega) only [go_sem]
    exact W_retC c88_ok rfl (Conv.drop _ back) ⟨rfl, rfl⟩
theorem specCheckProof_ok {ex : Bool} {vars : Int} {cls : List (List Int)} {st : List (Bool × List Int)} (hb : cnfB vars cls = true) (hv : 1 ≤ vars) (hs : stepsB vars st = true) :
    Ret Try.prog Γ 38 [cnfV vars cls, .isl ex 2 (stepsV st)] σ (.tup [.int .i64 (checkP vars st cls 0).1, .int .i64 (checkP vars st cls 0).2]) σ := by
  obtain ⟨hc, hv0, hv40, hcl⟩ := clsOK_of hb
  obtain ⟨hsl, hs1⟩ := steps_of hs
  have hgt : decide ((st.length : Int) > 4096) = false := decide_eq_false (by omega)
  refine ret_of c38_ok rfl ?_
  simp (disch := omega) only [c38, cnfV, hgt, go_sem]
  refine SRun.boxR (by simp [ev, look, V.cells, V.one]) ?_
  intro b2 hb2
  simp (disch := omega) only [hgt, go_sem]
  refine SRun.callR (cnfOK_ok hb) ⟨[], rfl, rfl⟩ rfl ?_
  simp (disch := omega) only [go_sem]
  refine SRun.callR (l03Steps_ok (by omega) (by omega) fun s h => by have := (hs1 s h).1; omega) ⟨[], rfl, rfl⟩ rfl ?_
  simp (disch := omega) only [hs, go_sem]
  refine SRun.callR (l03Check_ok ⟨hv, hv40⟩ (cl_of hb) hcl hs1 hsl) ⟨[], rfl, rfl⟩ rfl ?_
  simp (disch := omega) only [go_sem]
  exact W_retC c38_ok rfl (Conv.drop _ (le_upd hb2)) ⟨rfl, rfl⟩
end Go.Proofs.Ytlojopaebdnacaa.Lg
