/- The law FnExactFilterEx over its code. -/
import Derived.Test.YtlidjjjpjndneaaJe
set_option linter.unusedSimpArgs false
set_option linter.unusedVariables false
namespace Go.Proofs.Ytlidjjjpjndneaa.Lg
open Go
attribute [local irreducible] SRun DS DRun
variable {Γ : St} {σ σ0 : St}
theorem listAt_plain : ∀ {ks : List Ex}, (∀ e ∈ ks, ∀ q bs, kidsAt σ e q bs → Plain q ∧ ∀ b ∈ bs, ∀ cs, σ b = some cs → ∀ c ∈ cs, Plain c) → ∀ {cs : List V} {bs : List Nat}, listAt σ ks cs bs → (∀ c ∈ cs, Plain c) ∧ ∀ b ∈ bs, ∀ cs, σ b = some cs → ∀ c ∈ cs, Plain c := by
  intro ks
  induction ks with
  | nil => intro _ cs bs h; rw [listAt_nil] at h; obtain ⟨rfl, rfl⟩ := h; exact ⟨(fun c hc => by cases hc), (fun b hb => by cases hb)⟩
  | cons e r ih =>
    intro he cs bs h
    rw [listAt_cons] at h
    obtain ⟨q, b1, b2, cs', rfl, rfl, h1, h2⟩ := h
    obtain ⟨p1, p2⟩ := he e (by simp) q b1 h1
    obtain ⟨p3, p4⟩ := ih (fun x hx => he x (by simp [hx])) h2
    refine ⟨fun c hc => ?_, fun b hb => ?_⟩
    · simp only [List.mem_cons] at hc
      rcases hc with rfl | rfl | rfl | hc
      · exact Plain.int _ _
      · exact Plain.int _ _
      · exact p1
      · exact p3 c hc
    · rcases List.mem_append.1 hb with hb | hb
      · exact p2 b hb
      · exact p4 b hb
theorem kidsAt.plain : ∀ (e : Ex) (q : V) (bs : List Nat), kidsAt σ e q bs → Plain q ∧ ∀ b ∈ bs, ∀ cs, σ b = some cs → ∀ c ∈ cs, Plain c := by
  refine Ex.ind fun k n ks ih q bs h => ?_
  rw [kidsAt_mk] at h
  rcases h with ⟨_, ⟨_, rfl⟩, rfl⟩ | ⟨d, cap, cs, bs', rfl, hd, rfl, hl⟩
  · exact ⟨Plain.isl0 _ _, (fun b hb => by cases hb)⟩
  · obtain ⟨p1, p2⟩ := listAt_plain ih hl
    refine ⟨Plain.msl _ _ _ _ _, fun b hb cs2 h2 c hc => ?_⟩
    rcases List.mem_cons.1 hb with rfl | hb
    · rw [hd] at h2; cases h2; exact p1 c hc
    · exact p2 b hb cs2 h2 c hc
/-- Nothing else is owned. -/
theorem FilterEx_ownL {n : Net} {a t : Int} (hn : NetLen n) : ACalls Try.prog Γ 43 [netV n, .int .i64 a, .int .i64 t] emp fun r s => ∃ q bs, r = .tup [.agg [.int .i64 (exK (filRes n a t).1), .int .i64 (exN (filRes n a t).1), q], .int .i64 (filRes n a t).2] ∧ kidsAt s (filRes n a t).1 q bs ∧ bs.Nodup ∧ ∀ b, s b ≠ none → b ∈ bs := by
  refine ACalls.conv (FilterEx_own hn) ?_
  rintro r s ⟨q, bs, rfl, hk, hnd, -, -⟩
  refine ⟨_, fun d => if d ∈ bs then s d else none, ⟨fun d x h => ?_, .refl _⟩, q, bs, rfl, kidsAt.more _ q bs hk fun b hb c hc => ?_, hnd, fun b hb => ?_⟩
  · dsimp only at h
    split at h
    · exact h
    · cases h
  · show (if b ∈ bs then s b else none) = some c
    rw [if_pos hb]; exact hc
  · dsimp only at hb
    by_cases e : b ∈ bs
    · exact e
    · rw [if_neg e] at hb; exact absurd rfl hb
theorem res_small (n : Net) (a t : Int) : sizeE (filRes n a t).1 ≤ 1000 := by
  have hz : sizeE zeroE = 1 := rfl
  unfold filRes
  split
  · rw [hz]; omega
  split
  · rw [hz]; omega
  unfold exRes
  cases h : okE (filE a t n.filters) with
  | false => rw [cond_false, hz]; omega
  | true =>
    rw [cond_true]
    simp only [okE, Bool.and_eq_true, decide_eq_true_eq] at h
    show sizeE (filE a t n.filters) ≤ 1000
    omega
theorem NetAt.ats {n : Net} {qs : List V} {s : St} (h : NetAt σ0 n qs s) : ∀ m ∈ qs, ∃ es xs, At s es xs m := by
  obtain ⟨q0, q1, q2, q3, q4, q5, rfl, _, _, a0, a1, a2, a3, a4, a5⟩ := h
  intro m hm
  simp only [List.mem_cons, List.not_mem_nil, or_false] at hm
  rcases hm with rfl | rfl | rfl | rfl | rfl | rfl
  · exact ⟨_, _, a0⟩
  · exact ⟨_, _, a1⟩
  · exact ⟨_, _, a2⟩
  · exact ⟨_, _, a3⟩
  · exact ⟨_, _, a4⟩
  · exact ⟨_, _, a5⟩
theorem Rooms.shape {n : Net} {qs : List V} {s : St} (h : Rooms σ n qs) (hs : Shape σ s) : Rooms s n qs := by
  obtain ⟨q0, q1, q2, q3, q4, q5, rfl, r0, r1, r2, r3, r4, r5⟩ := h
  exact ⟨q0, q1, q2, q3, q4, q5, rfl, r0.shape hs, r1.shape hs, r2.shape hs, r3.shape hs, r4.shape hs, r5.shape hs⟩
theorem ex_set (x y z : V) (e : Ex) : sets [x, y, z] 0 (exC e) = exC e := by obtain ⟨k, n, ks⟩ := e; rfl
set_option maxHeartbeats 4000000 in
set_option maxRecDepth 100000 in
theorem fnExactFilterEx_ok {n : Net} {a t : Int} (hn : NetIn n) : Ret Try.prog Γ 8 [netV n, .int .i64 a, .int .i64 t] σ (.bool true) σ := by
  have hlen : (netC n).take 6 = netC n := rfl
  have hlen2 : (netC n).length = 6 := rfl
  refine ret_of c8_ok rfl ?_
  simp (disch := omega) only [c8, netV, go_sem]
  refine SRun.boxR (net_one n) ?_
  intro b3 hb3
  have g3 := upd_same σ b3 (netC n)
  have hσ : ∀ d y, σ d = some y → upd σ b3 (netC n) d = some y := le_upd hb3
  simp (disch := omega) only [go_sem]
  generalize upd σ b3 (netC n) = s1 at *
  simp (disch := omega) only [g3, hlen, hlen2, go_sem]
  refine SRun.callQ (szNet_ok hn ⟨by omega, by omega⟩) ⟨[], rfl, rfl⟩ rfl ?_
  rintro r s ⟨hs, x1, rfl, h2, h2', k1⟩
  obtain rfl := hs.symm
  simp (disch := omega) only [go_sem]
  first | refine iteW_dec (fun q1 => ?_) (fun q1 => ?_) | refine iteW_of (fun q1 => ?_) (fun q1 => ?_)
  · simp (disch := omega) only [go_sem]
    exact W_retC c8_ok rfl (Conv.drop _ hσ) ⟨rfl, rfl⟩
  have hf := k1 (by omega)
  have hN := hf.len
  have hres := fEx_res n a t
  have F1 := fun Γ σ => FilterExs_ok (Γ := Γ) (σ := σ) (a := a) (t := t) hN
  have F2 := fun Γ σ => FilterEx_ok (Γ := Γ) (σ := σ) (a := a) (t := t) hN
  have F3 := fun Γ => FilterEx_ownL (Γ := Γ) (a := a) (t := t) hN
  have hsm := res_small n a t
  rw [hres] at F1 F2
  generalize (filRes n a t).1 = e at *
  generalize (filRes n a t).2 = code at *
  have hcc : (decide ¬ code = code) = false := by simp
  have he1 := exC_one e
  have hec := cells_exV e
  have hel : (exC e).length = 3 := exC_len e
  simp (disch := omega) only [g3, hlen, hlen2, go_sem]
  refine SRun.callR (toNet_ok hf) ⟨[], rfl, rfl⟩ rfl ?_
  simp (disch := omega) only [go_sem]
  refine SRun.callR (F1 _ _) ⟨[], rfl, rfl⟩ rfl ?_
  simp (disch := omega) only [go_sem]
  refine SRun.allocR ?_
  intro b8 hb8
  have hse := ex_set (.int .i64 0) (.int .i64 0) (.isl true 0 []) e
  simp (disch := omega) only [hec, he1, hse, go_sem]
  have g3b := le_upd (cs := exC e) hb8 _ _ g3
  have g8 := upd_same s1 b8 (exC e)
  have hσ2 : ∀ d y, σ d = some y → upd s1 b8 (exC e) d = some y := fun d y h => le_upd hb8 _ _ (hσ d y h)
  generalize upd s1 b8 (exC e) = s2 at *
  simp (disch := omega) only [g3b, hlen, hlen2, go_sem]
  refine SRun.callQ (toNet_own hf) ⟨[], rfl, rfl⟩ rfl ?_
  rintro r s3 ⟨qs, rfl, ha⟩
  have hqs := ha.one
  have hfr : ∀ q ∈ qs, ∀ b, blk q = some b → s2 b = none := by obtain ⟨_, _, _, _, _, _, _, _, h, _⟩ := ha; exact h
  have hle3 : ∀ b c, s2 b = some c → s3 b = some c := by obtain ⟨_, _, _, _, _, _, _, h, _⟩ := ha; exact h
  have hqone : (∀ c, c ∈ qs → c.one = true) = True := eq_true hqs.1
  have hqt : qs.take 6 = qs := List.take_of_length_le (by omega)
  have hql := hqs.2
  have hqset : sets [V.isl true 0 [], V.isl true 0 [], V.isl true 0 [], V.isl true 0 [], V.isl true 0 [], V.isl true 0 []] 0 qs = qs := by
    obtain ⟨_, _, _, _, _, _, rfl, _⟩ := ha; rfl
  simp (disch := omega) only [go_sem]
  refine SRun.allocR ?_
  intro b10 hb10
  simp (disch := omega) only [hql, hqone, hqset, hqt, go_sem]
  have g10 := upd_same s3 b10 qs
  have hle4 := le_upd (cs := qs) hb10
  have ha4 : Frz (upd s3 b10 qs) emp (.agg qs) (netV n) := ha.lend.more fun b c h => hle4 _ _ h
  generalize upd s3 b10 qs = s4 at *
  refine SRun.callQ (ACalls.lend (F3 _) (args := [.agg qs, .int .i64 a, .int .i64 t]) rfl (frzL_get (by exact ⟨ha4, .refl _, .refl _, trivial⟩)) ?_) ⟨[], rfl, rfl⟩ rfl ?_
  · rintro r s ⟨q, bs, rfl, hk, hnd, hon⟩
    obtain ⟨pq, pb⟩ := kidsAt.plain e q bs hk
    refine ⟨Plain.tup fun x hx => ?_, fun b cs hb c hc => pb b (hon b (by rw [hb]; simp)) cs hb c hc⟩
    simp only [List.mem_cons, List.not_mem_nil, or_false] at hx
    rcases hx with rfl | rfl
    · refine Plain.agg fun x hx => ?_
      simp only [List.mem_cons, List.not_mem_nil, or_false] at hx
      rcases hx with rfl | rfl | rfl
      · exact Plain.int _ _
      · exact Plain.int _ _
      · exact pq
    · exact Plain.int _ _
  rintro r s7 ⟨s', rfl, hdj, q, bs, rfl, hk, hnd, hon⟩
  have hle7 : ∀ b c, s4 b = some c → cup s' s4 b = some c := fun b c h => by
    rcases hdj b with h1 | h1
    · unfold cup; rw [h1]; exact h
    · rw [h1] at h; cases h
  have hk7 : kidsAt (cup s' s4) e q bs := kidsAt.more e q bs hk fun b _ c hc => cup_of_some hc
  have hfb : ∀ b ∈ bs, s4 b = none := fun b hb => (hdj b).resolve_left (kidsAt.has e q bs hk b hb)
  clear hk hon
  generalize cup s' s4 = s7 at *
  have hq1 := hk7.one.1
  simp (disch := omega) only [go_sem]
  refine SRun.allocR ?_
  intro b11 hb11
  have le24 : ∀ b c, s2 b = some c → s4 b = some c := fun b c h => hle4 _ _ (hle3 _ _ h)
  have le78 := le_upd (cs := [.int .i64 (exK e), .int .i64 (exN e), q]) hb11
  have le28 : ∀ b c, s2 b = some c → upd s7 b11 [.int .i64 (exK e), .int .i64 (exN e), q] b = some c := fun b c h => le78 _ _ (hle7 _ _ (le24 _ _ h))
  have g3d := le28 _ _ g3b
  have g8d := le28 _ _ g8
  have g10d := le78 _ _ (hle7 _ _ g10)
  have g11d := upd_same s7 b11 [.int .i64 (exK e), .int .i64 (exN e), q]
  have hk8 : kidsAt (upd s7 b11 [.int .i64 (exK e), .int .i64 (exN e), q]) e q bs := kidsAt.more e q bs hk7 fun b _ c hc => le78 _ _ hc
  have ha8 := ha4.more fun b c h => le78 _ _ (hle7 _ _ h)
  have rm := ha.rooms.shape (Shape.le fun b c h => le78 _ _ (hle7 _ _ (hle4 _ _ h)))
  have hσ8 : ∀ d y, σ d = some y → upd s7 b11 [.int .i64 (exK e), .int .i64 (exN e), q] d = some y := fun d y h => le28 _ _ (hσ2 _ _ h)
  -- what stays
  have hK : ∀ b, (s2 b ≠ none ∨ b = b11 ∨ b ∈ bs) → ∀ m ∈ qs, blk m ≠ some b := fun b hb m hm e1 => by
    obtain ⟨es, xs, hat⟩ := ha.ats m hm
    have h3 : s4 b ≠ none := by rw [hle4 _ _ (hat.has e1)]; simp
    rcases hb with hb | rfl | hb
    · exact hb (hfr m hm b e1)
    · exact h3 (none_of hle7 _ hb11)
    · exact h3 (hfb b hb)
  have hb11n : b11 ∉ bs := fun h => kidsAt.has e q bs hk7 _ h hb11
  have hbs2 : ∀ b, s2 b ≠ none → b ∉ bs := fun b h1 h2 => h1 (none_of le24 b (hfb b h2))
  simp (disch := omega) only [hq1, g8d, go_sem]
  generalize upd s7 b11 [.int .i64 (exK e), .int .i64 (exN e), q] = s8 at *
  have frW := hk8.lend
  refine SRun.callR (Ret.lendL (eqEx_ok e (by omega)) (by exact ⟨frW, .refl _, trivial⟩) (Plain.bool _)) ⟨[], rfl, rfl⟩ rfl ?_
  simp (disch := omega) only [hcc, go_sem]
  refine W_drawW ?_
  refine DRun.mixE rfl ?_
  simp (disch := omega) only [g10d, g3d, hlen, hlen2, hqt, hql, go_sem]
  refine DS.callB (toNet_ok hf) ⟨[], rfl, rfl⟩ rfl rfl ?_
  simp (disch := omega) only [go_sem]
  refine DRun.callQ (Ret.lendL (eqNet_ok hf) (by exact ⟨ha8, .refl _, trivial⟩) (Plain.bool _)) ⟨[], rfl, rfl⟩ ?_
  rintro r s ⟨rfl, hs⟩
  obtain rfl := hs.symm
  simp (disch := omega) only [g10d, hqt, hql, go_sem]
  refine SRun.callQ (markNet_ok hf rm) ⟨[], rfl, rfl⟩ rfl ?_
  rintro r s9 ⟨⟨k9, rfl, ka9, kb9⟩, sh9, fr9⟩
  have keep : ∀ b, (s2 b ≠ none ∨ b = b11 ∨ b ∈ bs) → s9 b = s8 b := fun b hb => fr9 b (hK b hb)
  have g3e := (keep b3 (.inl (by rw [g3b]; simp))).trans g3d
  have g8e := (keep b8 (.inl (by rw [g8]; simp))).trans g8d
  have g11e := (keep b11 (.inr (.inl rfl))).trans g11d
  have hk9 : kidsAt s9 e q bs := kidsAt.more e q bs hk8 fun b hb c hc => by rw [keep b (.inr (.inr hb))]; exact hc
  have hσ9 : ∀ d y, σ d = some y → s9 d = some y := fun d y h => (keep d (.inl (by rw [hσ2 _ _ h]; simp))).trans (hσ8 _ _ h)
  have hk9n : decide (k9 < 0) = false := decide_eq_false (by omega)
  clear keep fr9 sh9
  have frE := hk9.lend
  simp (disch := omega) only [hk9n, g11e, g8e, go_sem]
  refine SRun.callR (Ret.lendL (eqEx_ok e (by omega)) (by exact ⟨frE, .refl _, trivial⟩) (Plain.bool _)) ⟨[], rfl, rfl⟩ rfl ?_
  simp (disch := omega) only [hcc, g11e, go_sem]
  refine SRun.callQ (markEx_at (k := 1) hk9 hnd (by omega) (by omega) (by omega)) ⟨[], rfl, rfl⟩ rfl ?_
  rintro r s10 ⟨rfl, hk10, ho10⟩
  have hb3n := hbs2 b3 (by rw [g3b]; simp)
  have hb8n := hbs2 b8 (by rw [g8]; simp)
  have g3f := (ho10 b3 hb3n (by rw [g3e]; simp)).trans g3e
  have g8f := (ho10 b8 hb8n (by rw [g8e]; simp)).trans g8e
  have g11f := (ho10 b11 hb11n (by rw [g11e]; simp)).trans g11e
  have hσ10 : ∀ d y, σ d = some y → s10 d = some y := fun d y h => (ho10 d (hbs2 d (by rw [hσ2 _ _ h]; simp)) (by rw [hσ9 _ _ h]; simp)).trans (hσ9 _ _ h)
  clear ho10
  have hp := numE_parts e 1
  have hbd := numE_bound e 1
  have frF := hk10.lend
  rw [hp.1, hp.2.1] at frF
  have H := fun Γ => heldEx_ok (Γ := Γ) (σ := emp) (e := e) (k := 1) (by omega) (by omega) (by omega)
  generalize (numE e 1).2 = m at *
  generalize (numE e 1).1 = em at *
  have hmm : (decide ¬ m = m) = false := by simp
  have hm0 : decide (m < 0) = false := decide_eq_false (by omega)
  simp (disch := omega) only [g11f, go_sem]
  refine SRun.callR (Ret.lendL (H _) (by exact ⟨frF, .refl _, trivial⟩) (Plain.int _ _)) ⟨[], rfl, rfl⟩ rfl ?_
  simp (disch := omega) only [hmm, hm0, g3f, hlen, hlen2, go_sem]
  refine SRun.callR (toNet_ok hf) ⟨[], rfl, rfl⟩ rfl ?_
  simp (disch := omega) only [go_sem]
  refine SRun.callR (F2 _ _) ⟨[], rfl, rfl⟩ rfl ?_
  simp (disch := omega) only [go_sem]
  refine SRun.allocR ?_
  intro b16 hb16
  simp (disch := omega) only [hec, he1, hse, go_sem]
  have le13 := le_upd (cs := exC e) hb16
  have g8g := le13 _ _ g8f
  have g11g := le13 _ _ g11f
  have frG := frF.more le13
  simp (disch := omega) only [g8g, go_sem]
  generalize upd s10 b16 (exC e) = s13 at *
  refine SRun.callR (eqEx_ok e (by omega)) ⟨[], rfl, rfl⟩ rfl ?_
  simp (disch := omega) only [hcc, g11g, go_sem]
  refine SRun.callR (Ret.lendL (H _) (by exact ⟨frG, .refl _, trivial⟩) (Plain.int _ _)) ⟨[], rfl, rfl⟩ rfl ?_
  simp (disch := omega) only [hmm, hm0, go_sem]
  exact W_retC c8_ok rfl (Conv.drop _ fun d y h => le13 _ _ (hσ10 _ _ h)) ⟨rfl, rfl⟩
end Go.Proofs.Ytlidjjjpjndneaa.Lg
