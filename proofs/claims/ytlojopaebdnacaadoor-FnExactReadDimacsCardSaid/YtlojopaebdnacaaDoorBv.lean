/- The law FnExactReadDimacs over its code. -/
import Derived.Test.YtlojopaebdnacaaDoorBt
set_option linter.unusedSimpArgs false
set_option linter.unusedVariables false
namespace Go.Proofs.YtlojopaebdnacaaDoor.Lg
open Go Go.Lib
attribute [local irreducible] SRun DS DRun
variable {Γ : St} {σ σ0 : St}
theorem headC_most {ws : List Wd} (h : (headC ws).1 = 0) : mostW ws ≤ 300 := by
  revert h
  unfold headC
  iterate 4
    split
    · intro h; cases h
  split
  · intro h; cases h
  · rename_i h; intro _; unfold mostW; omega
theorem litN_all {cls : List (List Int)} {now : List Int} {w : List UInt8} (h1 : ∀ c ∈ cls, c.length ≤ 12) (h2 : now.length ≤ 12) : ∀ c ∈ (litN (cls, now) w).1, c.length ≤ 12 := by
  unfold litN
  cases numP w with
  | none => exact h1
  | some n =>
    simp only
    split
    · intro c hc
      rcases List.mem_append.1 hc with h | h
      · exact h1 c h
      · rw [List.mem_singleton.1 h]; exact h2
    · exact h1
theorem litsP_small {vars most : Int} : ∀ (ws : List Wd) (cls : List (List Int)) (now : List Int), (cls.length : Int) ≤ most → now.length ≤ 12 → (∀ c ∈ cls, c.length ≤ 12) → ((litsP vars most ws (cls, now)).2.2.1.length : Int) ≤ most ∧ ∀ c ∈ (litsP vars most ws (cls, now)).2.2.1, c.length ≤ 12 := by
  intro ws
  induction ws with
  | nil => intro cls now h1 h2 h3; exact ⟨h1, h3⟩
  | cons w r ih =>
    intro cls now h1 h2 h3
    simp only [litsP]
    split
    · rename_i hz
      obtain ⟨n1, n2⟩ := litN_ok h1 h2 hz
      exact ih _ _ n1 n2 (litN_all h3 h2)
    · exact ⟨h1, h3⟩
theorem headC_low {ws : List Wd} (h : (headC ws).1 = 0) : 0 ≤ mostW ws := by
  revert h
  unfold headC
  iterate 2
    split
    · intro h; cases h
  split
  · intro h; cases h
  · rename_i h; intro _; unfold mostW
    have := fun g => h (.inr g); omega
theorem dimL_small (len : Nat) : ∀ (L : List (List Wd × Nat)), (dimL len L).cls.length ≤ 300 ∧ ∀ c ∈ (dimL len L).cls, c.length ≤ 12 := by
  have hbad : ∀ c p, (DimR.bad c p).cls.length ≤ 300 ∧ ∀ x ∈ (DimR.bad c p).cls, x.length ≤ 12 := fun c p => ⟨by simp [DimR.bad], fun x hx => by cases hx⟩
  intro L
  cases L with
  | nil => exact hbad _ _
  | cons l ls =>
    simp only [dimL]
    by_cases hz : (headC l.1).1 = 0
    · rw [if_neg (fun h => h hz)]
      have hm := headC_most hz
      have hp := headC_low hz
      unfold dimEnd
      split
      · exact hbad _ _
      · split
        · exact hbad _ _
        · obtain ⟨a, b⟩ := litsP_small (vars := varsW l.1) (ls.flatMap (·.1)) [] [] (by simpa using hp) (by simp) (fun c hc => by cases hc)
          exact ⟨by have := a; simp only at this ⊢; omega, b⟩
    · rw [if_pos hz]; exact hbad _ _
theorem dimP_small (t : List UInt8) : (dimP t).cls.length ≤ 300 ∧ ∀ c ∈ (dimP t).cls, c.length ≤ 12 := by
  unfold dimP
  split
  · exact ⟨by simp [DimR.bad], fun x hx => by cases hx⟩
  · exact dimL_small _ _
theorem LLA.grow {α : Type} {pre row : α → List V} {k es : Nat} {vs : List α} {q : V} {qs : List V} {s s0 : St} (h : LLA σ0 k es pre row vs q qs s) (h0 : ∀ b, s b ≠ none → σ0 b = none → s0 b = none) : LLA s0 k es pre row vs q qs s :=
  ⟨h.at_, ⟨h.rows.len, h.rows.at_, fun m hm b hb => h0 b (h.blk_has (.inr ⟨m, hm, hb⟩)) (h.rows.new m hm b hb), h.rows.ap⟩, fun b hb => h0 b (h.blk_has (.inl hb)) (h.new b hb), h.ap⟩
theorem cnf_ones {v : Int} {cs : List (List Int)} : ∀ y ∈ [V.int .i64 v, .isl false 1 (clV cs)], y.one = true := by simp [V.one]
theorem LLA.cnf {v : Int} {cs : List (List Int)} {q : V} {qs : List V} {s : St} (h : LLA σ0 1 1 pre0 ints cs q qs s) : Frz s emp (.agg [.int .i64 v, q]) (.agg [.int .i64 v, .isl false 1 (clV cs)]) :=
  frz_agg (by exact ⟨.refl _, h.lend pre0_ok, trivial⟩) cnf_ones
theorem ReadDimacs_ok (hg : NumG Γ) {t : List UInt8} (hl : t.length ≤ 10000000) : Ret Tryd.prog Γ 10 [.str t] σ (.tup [.agg [.int .i64 (dimP t).vars, .isl false 1 (clV (dimP t).cls)], .int .i64 (dimP t).code, .int .i64 (dimP t).place]) σ :=
  (ReadDimacs_own hg hl).conv fun r s ⟨hle, q, qs, e, h⟩ => by
    subst e
    exact ⟨_, _, ⟨hle, frz_tup (by exact ⟨frz_agg (by exact ⟨.refl _, (h.conv pre0_ok hle).2, trivial⟩) cnf_ones, .refl _, .refl _, trivial⟩)⟩, rfl, rfl⟩
theorem specReadDimacs_ok {t : List UInt8} (hl : t.length ≤ 10000000) : Ret Tryd.prog Γ 13 [.str t] σ (.tup [.agg [.int .i64 (dimP t).vars, .isl false 1 (clV (dimP t).cls)], .int .i64 (dimP t).code, .int .i64 (dimP t).place]) σ :=
  (specReadDimacs_own hl).conv fun r s ⟨hle, q, qs, e, h⟩ => by
    subst e
    exact ⟨_, _, ⟨hle, frz_tup (by exact ⟨frz_agg (by exact ⟨.refl _, (h.conv pre0_ok hle).2, trivial⟩) cnf_ones, .refl _, .refl _, trivial⟩)⟩, rfl, rfl⟩
set_option maxHeartbeats 2000000 in
theorem fnExactReadDimacs_ok (hg : NumG Γ) {t : List UInt8} (hl : t.length ≤ 9223372036854775807) : Ret Tryd.prog Γ 4 [.str t] σ (.bool true) σ := by
  have hlen2 : ∀ x y : V, [x, y].take 2 = [x, y] := fun _ _ => rfl
  refine ret_of c4_ok rfl ?_
  simp (disch := omega) only [c4, go_sem]
  first | refine iteW_dec (fun h1 => ?_) (fun h1 => ?_) | refine iteW_of (fun h1 => ?_) (fun h1 => ?_)
  · simp (disch := omega) only [go_sem]
    exact W_retR c4_ok rfl ⟨rfl, rfl⟩
  have hl2 : t.length ≤ 10000000 := by omega
  obtain ⟨p1, p2⟩ := dimP_small t
  have F1 := fun σ => specReadDimacs_ok (Γ := Γ) (σ := σ) hl2
  have F2 := fun σ => ReadDimacs_ok (Γ := Γ) (σ := σ) hg hl2
  have F3 := fun σ => ReadDimacs_own (Γ := Γ) (σ := σ) hg hl2
  generalize dimP t = R at *
  obtain ⟨v, cs, code, place⟩ := R
  dsimp only at *
  have hll : (cs.map List.length).length = cs.length := by simp
  have hln : ∀ n ∈ cs.map List.length, n ≤ 12 := fun n hn => by obtain ⟨c, hc, rfl⟩ := List.mem_map.1 hn; exact p2 c hc
  have hle13 := endC_le (cs.map List.length) 1 hln
  have hge := endC_ge (cs.map List.length) 1
  have H1 := fun Γ σ => heldCnf_ok (Γ := Γ) (σ := σ) (v := v) (ex := false) (ls := cs.map List.length) (k := 1) (by omega) (fun n hn => by have := hln n hn; omega) (by omega) (by omega)
  have E1 := fun Γ σ => eqCnf_ok (Γ := Γ) (σ := σ) (v := v) (ex := false) (ex2 := false) (cs := cs) (by omega) (fun c hc => by have := p2 c hc; omega)
  have hcc : (decide ¬ code = code) = false := by simp
  have hpp : (decide ¬ place = place) = false := by simp
  have hnt : (!true) = false := rfl
  have hsetR : ∀ x y : V, sets [V.int .i64 0, .isl true 0 []] 0 [x, y] = [x, y] := fun _ _ => rfl
  have hl2' : ∀ x y : V, [x, y].length = 2 := fun _ _ => rfl
  simp (disch := omega) only [go_sem]
  refine SRun.callR (F1 _) ⟨[], rfl, rfl⟩ rfl ?_
  simp (disch := omega) only [go_sem]
  refine SRun.allocR ?_
  intro b3 hb3
  have g3 := upd_same σ b3 [.int .i64 v, .isl false 1 (clV cs)]
  have hσ := le_upd (cs := [V.int .i64 v, .isl false 1 (clV cs)]) hb3
  simp (disch := omega) only [upd_same, upd_upd, hsetR, go_sem]
  generalize upd σ b3 [.int .i64 v, .isl false 1 (clV cs)] = s1 at *
  refine SRun.callQ (F3 s1) ⟨[], rfl, rfl⟩ rfl ?_
  rintro r s2 ⟨hle, q, qs, rfl, hA⟩
  simp (disch := omega) only [go_sem]
  refine SRun.allocR ?_
  intro b6 hb6
  have ho2 : (∀ c, c ∈ [V.int .i64 v, q] → c.one = true) = True := eq_true (by intro c hc; rcases List.mem_cons.1 hc with h | h; rw [h]; rfl; rw [List.mem_singleton.1 h]; exact hA.at_.one)
  have hle6 := le_upd (cs := [V.int .i64 v, q]) hb6
  have hA2 : LLA (upd s1 b6 [V.int .i64 v, q]) 1 1 pre0 ints cs q qs (upd s2 b6 [V.int .i64 v, q]) := (hA.grow (s0 := upd s1 b6 [V.int .i64 v, q]) (fun b h1 h2 => (upd_ne _ _ (fun e => by subst e; exact h1 hb6)).trans h2)).mono hle6
  have hz6 : s1 b6 = none := none_of hle _ hb6
  have hleA : ∀ b c, upd s1 b6 [V.int .i64 v, q] b = some c → upd s2 b6 [V.int .i64 v, q] b = some c := fun b c h => by
    by_cases e : b = b6
    · subst e; rw [upd_same] at h ⊢; exact h
    · rw [upd_ne _ _ e] at h ⊢; exact hle _ _ h
  have g36 : upd s1 b6 [V.int .i64 v, q] b3 = some [.int .i64 v, .isl false 1 (clV cs)] := le_upd hz6 _ _ g3
  have g66 := upd_same s1 b6 [V.int .i64 v, q]
  have hσA : ∀ b c, σ b = some c → upd s1 b6 [V.int .i64 v, q] b = some c := fun b c h => le_upd hz6 _ _ (hσ _ _ h)
  simp (disch := omega) only [upd_same, upd_upd, hsetR, hl2', ho2, go_sem]
  generalize upd s2 b6 [V.int .i64 v, q] = s3 at *
  generalize upd s1 b6 [V.int .i64 v, q] = sA at *
  have g3' := hleA _ _ g36
  have g6' := hleA _ _ g66
  simp (disch := omega) only [g3', g6', hlen2, go_sem]
  refine SRun.callR (Ret.lendL (E1 _ _) (by exact ⟨hA2.cnf, .refl _, trivial⟩) (Plain.bool _)) ⟨[], rfl, rfl⟩ rfl ?_
  simp (disch := omega) only [hcc, hpp, hnt, g6', hlen2, go_sem]
  refine SRun.callQ (markCnf_at (v := v) (k := 1) hA2 (by omega) (fun c hc => by have := p2 c hc; omega) (by omega) (by omega) hleA) ⟨[], rfl, rfl⟩ rfl ?_
  rintro r s4 ⟨rfl, hM, hle4⟩
  generalize endC 1 (cs.map List.length) = E at *
  generalize hMM : markC 1 (cs.map List.length) = M at *
  have d0 : decide (E < 0) = false := decide_eq_false (by omega)
  have dE : (decide ¬ E = E) = false := by simp
  have g3 := hle4 _ _ g36
  have g6 := hle4 _ _ g66
  simp (disch := omega) only [g6, hlen2, go_sem]
  refine SRun.callR (Ret.lendL (H1 _ _) (by exact ⟨hM.cnf, .refl _, trivial⟩) (Plain.int _ _)) ⟨[], rfl, rfl⟩ rfl ?_
  simp (disch := omega) only [d0, dE, go_sem]
  refine SRun.callR (F2 _) ⟨[], rfl, rfl⟩ rfl ?_
  simp (disch := omega) only [go_sem]
  refine SRun.allocR ?_
  intro b11 hb11
  have hle11 := le_upd (cs := [V.int .i64 v, .isl false 1 (clV cs)]) hb11
  have g11 := upd_same s4 b11 [V.int .i64 v, .isl false 1 (clV cs)]
  have g3 := hle11 _ _ g3
  have g6 := hle11 _ _ g6
  have hM := hM.mono hle11
  have hle5 : ∀ b c, σ b = some c → upd s4 b11 [V.int .i64 v, .isl false 1 (clV cs)] b = some c := fun b c h => hle11 _ _ (hle4 _ _ (hσA _ _ h))
  simp (disch := omega) only [upd_same, upd_upd, hsetR, go_sem]
  generalize upd s4 b11 [V.int .i64 v, .isl false 1 (clV cs)] = s5 at *
  simp (disch := omega) only [g11, g3, hlen2, go_sem]
  refine SRun.callR (E1 _ _) ⟨[], rfl, rfl⟩ rfl ?_
  simp (disch := omega) only [hcc, hpp, hnt, g6, hlen2, go_sem]
  refine SRun.callR (Ret.lendL (H1 _ _) (by exact ⟨hM.cnf, .refl _, trivial⟩) (Plain.int _ _)) ⟨[], rfl, rfl⟩ rfl ?_
  simp (disch := omega) only [d0, dE, go_sem]
  exact W_retC c4_ok rfl (Conv.drop _ hle5) ⟨rfl, rfl⟩
end Go.Proofs.YtlojopaebdnacaaDoor.Lg
