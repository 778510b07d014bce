/- The program's functions, one by one: what is implied. -/
import Derived.Test.YtlojopaebdnacaaMd
set_option linter.unusedSimpArgs false
set_option linter.unusedVariables false
namespace Go.Proofs.Ytlojopaebdnacaa.Lg
open Go
attribute [local irreducible] SRun DS DRun
variable {Γ : St} {σ σ0 : St}
theorem litB_iff {vars x : Int} : litB vars x = true ↔ litOK vars x := by simp [litB, litOK]
theorem clsOK_of {vars : Int} {cls : List (List Int)} (h : cnfB vars cls = true) : ClsOK vars cls ∧ 0 ≤ vars ∧ vars ≤ 40 ∧ cls.length ≤ 300 := by
  simp only [cnfB, Bool.and_eq_true, decide_eq_true_eq, List.all_eq_true, clauseB] at h
  exact ⟨⟨⟨by omega, fun c hc => by have := (h.2 c hc).1; omega⟩, fun c hc x hx => litB_iff.1 ((h.2 c hc).2 x hx)⟩, h.1.1.1, h.1.1.2, h.1.2⟩
theorem implied_ok {vars : Int} {cls : List (List Int)} {xs : List Int} {ex : Bool} (hv : 1 ≤ vars) (hcb : cnfB vars cls = true) (hxb : clauseB vars xs = true) :
    Ret Try.prog Γ 12 [cnfV vars cls, .isl ex 1 (ints xs)] σ (.tup [.bool (modelP vars (cls ++ xs.map fun x => [-x])).isNone, .int .i64 0]) σ := by
  obtain ⟨hc, hv0, hv40, hcl⟩ := clsOK_of hcb
  have hxl : xs.length ≤ 12 ∧ ∀ x ∈ xs, litOK vars x := by
    simp only [clauseB, Bool.and_eq_true, decide_eq_true_eq, List.all_eq_true] at hxb
    exact ⟨hxb.1, fun x hx => litB_iff.1 (hxb.2 x hx)⟩
  refine ret_of c12_ok rfl ?_
  have c0 : decide ((xs.length : Int) > 4096) = false := decide_eq_false (by omega)
  simp only [c12, cnfV, ints_len, go_sem, stepW_iaddr_isl, stepW_iaddr_msl, stepW_idxs, stepK_iaddr_isl, stepK_iaddr_msl, stepK_idxs, ne_eq, ↓reduceIte]
  refine SRun.boxR (by simp [ev, look, V.cells, V.one]) ?_
  intro b2 hb2
  simp only [ints_len, c0, go_sem, stepW_iaddr_isl, stepW_iaddr_msl, stepW_idxs, stepK_iaddr_isl, stepK_iaddr_msl, stepK_idxs, ne_eq, ↓reduceIte]
  refine SRun.callR (isCnf_ok hc.1) ⟨[], rfl, rfl⟩ rfl ?_
  simp only [hcb, go_sem, stepW_iaddr_isl, stepW_iaddr_msl, stepW_idxs, stepK_iaddr_isl, stepK_iaddr_msl, stepK_idxs, ne_eq, ↓reduceIte]
  refine SRun.callR (isClause_ok (xs := xs) (vars := vars) (by omega) (by omega)) ⟨[], rfl, rfl⟩ rfl ?_
  simp only [hxb, go_sem, stepW_iaddr_isl, stepW_iaddr_msl, stepW_idxs, stepK_iaddr_isl, stepK_iaddr_msl, stepK_idxs, ne_eq, ↓reduceIte]
  rw [W_draw]
  refine DRun.start (DRun.mixR (upd_same _ _ _) rfl ?_)
  simp only [upd_same, go_sem, stepW_iaddr_isl, stepW_iaddr_msl, stepW_idxs, stepK_iaddr_isl, stepK_iaddr_msl, stepK_idxs, ne_eq, ↓reduceIte]
  have hcln : ∀ {s : St}, ACalls Try.prog Γ 48 [.isl false 1 (clsV cls)] s fun r s' => OwnS s 1 (clsV cls) (clsV cls).length r s' := cloneL_ok (.inl ⟨_, _, _, rfl⟩) (src_row (clsV_one cls)) (by rw [clsV_len]; omega)
  refine DS.wr2 (WrF.call hcln ⟨[], rfl, rfl⟩) rfl ?_ ?_
  · intro r s hown hd
    have hr1 := hown.one
    simp only [hr1.1, hr1.2, go_sem, stepW_iaddr_isl, stepW_iaddr_msl, stepW_idxs, stepK_iaddr_isl, stepK_iaddr_msl, stepK_idxs, ne_eq, ↓reduceIte]
    refine DS.wrQ WrF.alloc rfl ?_
    rintro _ s1 ⟨b6, hb6, rfl, rfl⟩ hd2
    have ho := own_ext (z := [.int .i64 0, .isl true 0 []]) hown hb6
    have hb6' : del (upd σ b2 [.int .i64 vars, .isl false 1 (clsV cls)]) b2 b6 = none := by
      cases hs : del (upd σ b2 [.int .i64 vars, .isl false 1 (clsV cls)]) b2 b6 with
      | none => rfl
      | some x => rw [hown.get hs] at hb6; cases hb6
    simp only [go_sem, stepW_iaddr_isl, stepW_iaddr_msl, stepW_idxs, stepK_iaddr_isl, stepK_iaddr_msl, stepK_idxs, ne_eq, ↓reduceIte]
    clear hd
    generalize upd s b6 [.int .i64 0, .isl true 0 []] = s' at ho hd2 ⊢
    have hb62 : b6 ≠ b2 := by
      intro e; subst e
      rcases hd2 b6 with h | h
      · rw [ho.get (upd_same _ b6 _)] at h; cases h
      · rw [upd_same] at h; cases h
    have ho1 : OwnS (upd (upd σ b2 [.int .i64 vars, .isl false 1 (clsV cls)]) b6 [.int .i64 0, .isl true 0 []]) 1 (clsV cls) (clsV cls).length r (cup s' (upd emp b2 [.int .i64 vars, .isl false 1 (clsV cls)])) :=
      own_cupR (by rw [del_upd_ne _ _ hb62]; exact ho) (by rw [upd_ne _ _ hb62.symm, upd_same]) hd2
    generalize cup s' (upd emp b2 [.int .i64 vars, .isl false 1 (clsV cls)]) = σ3 at ho1
    have g6 := ho1.get (upd_same _ b6 _)
    simp only [g6, hr1.1, hr1.2, ints_len, go_sem, stepW_iaddr_isl, stepW_iaddr_msl, stepW_idxs, stepK_iaddr_isl, stepK_iaddr_msl, stepK_idxs, ne_eq, ↓reduceIte]
    have ho2 := ho1.upd (c' := [.int .i64 vars, r]) (upd_same _ b6 _)
    rw [upd_upd] at ho2
    rw [clsV_len] at ho2
    refine W_loopR (fun m T σ' => ∃ (i : Nat) (q : V), i + m = xs.length ∧ look T 6 = .ptr b6 0 ∧ look T 32 = .isl ex 1 (ints xs) ∧ look T 33 = .int .i64 xs.length ∧ look T 34 = .int .i64 i ∧ OwnS (upd (upd σ b2 [.int .i64 vars, .isl false 1 (clsV cls)]) b6 [.int .i64 vars, q]) 1 (clsV cls ++ (xs.take i).map fun x => .isl true 1 [.int .i64 (-x)]) (cls.length + i) q σ') xs.length ?_ ?_
    · exact ⟨0, r, by omega, rfl, rfl, rfl, rfl, by simpa using ho2⟩
    · rintro m T σ' ih ⟨i, q, hm, h6, h32, h33, h34, hq⟩
      simp only [h6, h32, h33, h34, go_sem, stepW_iaddr_isl, stepW_iaddr_msl, stepW_idxs, stepK_iaddr_isl, stepK_iaddr_msl, stepK_idxs, ne_eq, ↓reduceIte]
      refine iteW_of (fun hlt => ?_) (fun hlt => ?_)
      · have h' := of_decide_eq_true hlt
        have hlt2 : i < xs.length := by omega
        have hget : (ints xs)[i]? = some (.int .i64 xs[i]) := ints_get (by simp [hlt2])
        have hlit := hxl.2 xs[i] (List.getElem_mem hlt2)
        have htake : xs.take (i + 1) = xs.take i ++ [xs[i]] := by rw [List.take_add_one]; simp [hlt2]
        generalize xs[i] = x at hget hlit htake
        have w1 := wrap64 (a := (i : Int) + 1) (by omega) (by omega)
        have w2 := wrap64 (a := -x) (by have := hlit.2; omega) (by have := hlit.2; omega)
        have hneg : (0 : Int) - x = -x := by omega
        have c3 : (0 : Int) ≤ (i : Int) := by omega
        have gq := hq.get (upd_same _ b6 _)
        simp only [h6, h32, h33, h34, hget, w2, hneg, c3, gq, Int.toNat_natCast, go_sem, stepW_iaddr_isl, stepW_iaddr_msl, stepW_idxs, stepK_iaddr_isl, stepK_iaddr_msl, stepK_idxs, ne_eq, ↓reduceIte]
        refine SRun.appO hq src_s rfl (by omega) ?_
        intro r2 σ4 hr2
        have g4 := hr2.get (upd_same _ b6 _)
        have hr3 := hr2.one
        simp only [h6, h34, w1, g4, hr3.1, hr3.2, go_sem, stepW_iaddr_isl, stepW_iaddr_msl, stepW_idxs, stepK_iaddr_isl, stepK_iaddr_msl, stepK_idxs, ne_eq, ↓reduceIte]
        have ho4 := hr2.upd (c' := [.int .i64 vars, r2]) (upd_same _ b6 _)
        rw [upd_upd] at ho4
        refine ih (m - 1) _ _ (by omega) ⟨i + 1, r2, by omega, ?_, ?_, ?_, rfl, ?_⟩
        · simp only [go_sem, stepW_iaddr_isl, stepW_iaddr_msl, stepW_idxs, stepK_iaddr_isl, stepK_iaddr_msl, stepK_idxs, ne_eq, ↓reduceIte]; exact h6
        · simp only [go_sem, stepW_iaddr_isl, stepW_iaddr_msl, stepW_idxs, stepK_iaddr_isl, stepK_iaddr_msl, stepK_idxs, ne_eq, ↓reduceIte]; exact h32
        · simp only [go_sem, stepW_iaddr_isl, stepW_iaddr_msl, stepW_idxs, stepK_iaddr_isl, stepK_iaddr_msl, stepK_idxs, ne_eq, ↓reduceIte]; exact h33
        · rw [htake, List.map_append, ← List.append_assoc]
          exact ho4
      · have h' := of_decide_eq_false hlt
        have hiN : i = xs.length := by omega
        subst hiN
        rw [List.take_length] at hq
        have gq := hq.get (upd_same _ b6 _)
        simp only [h6, gq, go_sem, stepW_iaddr_isl, stepW_iaddr_msl, stepW_idxs, stepK_iaddr_isl, stepK_iaddr_msl, stepK_idxs, ne_eq, ↓reduceIte]
        have hnone : ∀ c, upd (upd σ b2 [.int .i64 vars, .isl false 1 (clsV cls)]) b6 [.int .i64 vars, q] c = none → σ c = none := by
          intro c hc
          exact (upd_none.1 (upd_none.1 hc).2).2
        have hb6n : σ b6 = none := by
          rw [del_ne _ hb62, upd_ne _ _ hb62] at hb6'
          exact hb6'
        have hle : ∀ c x, σ c = some x → σ' c = some x := fun c x hc => hq.get (le_upd (by rw [upd_ne _ _ hb62]; exact hb6n) _ _ (le_upd hb2 _ _ hc))
        have hcls : ClsOK vars (cls ++ xs.map fun x => [-x]) := by
          refine ⟨⟨by simp; omega, fun c hcm => ?_⟩, fun c hcm x hx => ?_⟩
          · rcases List.mem_append.1 hcm with h | h
            · exact hc.1.2 c h
            · obtain ⟨y, _, rfl⟩ := List.mem_map.1 h; simp
          · rcases List.mem_append.1 hcm with h | h
            · exact hc.2 c h x hx
            · obtain ⟨y, hy, rfl⟩ := List.mem_map.1 h
              simp at hx; subst hx
              have := hxl.2 y hy
              exact ⟨by have := this.1; omega, by have := this.2; omega⟩
        refine SRun.callQ (ACalls.pre (args := [.agg [.int .i64 vars, q]]) (args' := [cnfV vars (cls ++ xs.map fun x => [-x])]) hle rfl ?_ (leastModel_ok (σ := σ) (by omega) hcls)) ⟨[], rfl, rfl⟩ rfl ?_
        · intro j x y hx hy
          match j with
          | 0 =>
            simp at hx hy; subst hx hy
            refine .agg _ _ rfl ?_ ?_
            · intro j x hx
              match j with
              | 0 => simp at hx; subst hx; rfl
              | 1 => simp at hx; subst hx; rfl
              | j + 2 => simp at hx
            · intro j x y hy hx
              match j with
              | 0 => simp at hx hy; subst hx hy; exact .refl _
              | 1 =>
                simp at hx hy; subst hx hy
                refine own_frzG hq (by rw [clsV_len]; simp) (clsV_one _) (fun _ _ => rfl) hnone (fun j y x hy hx => ?_)
                rcases Nat.lt_or_ge j cls.length with hj | hj
                · rw [List.getElem?_append_left (by rw [clsV_len]; exact hj)] at hy
                  have hx2 : (clsV cls)[j]? = some x := by
                    rw [← hx, clsV, clsV, List.map_append, List.getElem?_append_left (by simpa using hj)]
                  rw [hy] at hx2
                  obtain rfl := Option.some.inj hx2
                  exact .refl _
                · rw [List.getElem?_append_right (by rw [clsV_len]; exact hj), clsV_len] at hy
                  simp only [clsV, List.map_append] at hx
                  rw [List.getElem?_append_right (by simpa using hj)] at hx
                  simp only [List.length_map, List.getElem?_map, Option.map_eq_some_iff] at hx hy
                  obtain ⟨u, hu, rfl⟩ := hy
                  obtain ⟨c, ⟨u2, hu2, rfl⟩, rfl⟩ := hx
                  rw [hu] at hu2
                  obtain rfl := Option.some.inj hu2
                  exact .isl _ _ _
              | j + 2 => simp at hx
          | j + 1 => simp at hx
        · rintro r s1 ⟨rfl, h | ⟨v, h, rfl⟩⟩
          · obtain ⟨hn, rfl⟩ := h
            simp only [List.getD_cons_zero, List.getD_cons_succ, go_sem, stepW_iaddr_isl, stepW_iaddr_msl, stepW_idxs, stepK_iaddr_isl, stepK_iaddr_msl, stepK_idxs, ne_eq, ↓reduceIte]
            refine W_retR c12_ok rfl ⟨?_, rfl⟩
            rw [hn]; rfl
          · simp only [List.getD_cons_zero, List.getD_cons_succ, go_sem, stepW_iaddr_isl, stepW_iaddr_msl, stepW_idxs, stepK_iaddr_isl, stepK_iaddr_msl, stepK_idxs, ne_eq, ↓reduceIte]
            refine W_retR c12_ok rfl ⟨?_, rfl⟩
            rw [h]; rfl
  · refine DS.wrQ WrF.alloc rfl ?_
    rintro _ s1 ⟨b6, hb6', rfl, rfl⟩ hd
    simp only [go_sem, stepW_iaddr_isl, stepW_iaddr_msl, stepW_idxs, stepK_iaddr_isl, stepK_iaddr_msl, stepK_idxs, ne_eq, ↓reduceIte]
    refine DS.callQ hcln ⟨[], rfl, rfl⟩ rfl ?_
    intro r s' ho hd2
    have hr1 := ho.one
    simp only [hr1.1, hr1.2, go_sem, stepW_iaddr_isl, stepW_iaddr_msl, stepW_idxs, stepK_iaddr_isl, stepK_iaddr_msl, stepK_idxs, ne_eq, ↓reduceIte]
    have hb62 : b6 ≠ b2 := by
      intro e; subst e
      rcases hd2 b6 with h | h
      · rw [ho.get (upd_same _ b6 _)] at h; cases h
      · rw [upd_same] at h; cases h
    have ho1 : OwnS (upd (upd σ b2 [.int .i64 vars, .isl false 1 (clsV cls)]) b6 [.int .i64 0, .isl true 0 []]) 1 (clsV cls) (clsV cls).length r (cup s' (upd emp b2 [.int .i64 vars, .isl false 1 (clsV cls)])) :=
      own_cupR (by rw [del_upd_ne _ _ hb62]; exact ho) (by rw [upd_ne _ _ hb62.symm, upd_same]) hd2
    generalize cup s' (upd emp b2 [.int .i64 vars, .isl false 1 (clsV cls)]) = σ3 at ho1
    have g6 := ho1.get (upd_same _ b6 _)
    simp only [g6, hr1.1, hr1.2, ints_len, go_sem, stepW_iaddr_isl, stepW_iaddr_msl, stepW_idxs, stepK_iaddr_isl, stepK_iaddr_msl, stepK_idxs, ne_eq, ↓reduceIte]
    have ho2 := ho1.upd (c' := [.int .i64 vars, r]) (upd_same _ b6 _)
    rw [upd_upd] at ho2
    rw [clsV_len] at ho2
    refine W_loopR (fun m T σ' => ∃ (i : Nat) (q : V), i + m = xs.length ∧ look T 6 = .ptr b6 0 ∧ look T 32 = .isl ex 1 (ints xs) ∧ look T 33 = .int .i64 xs.length ∧ look T 34 = .int .i64 i ∧ OwnS (upd (upd σ b2 [.int .i64 vars, .isl false 1 (clsV cls)]) b6 [.int .i64 vars, q]) 1 (clsV cls ++ (xs.take i).map fun x => .isl true 1 [.int .i64 (-x)]) (cls.length + i) q σ') xs.length ?_ ?_
    · exact ⟨0, r, by omega, rfl, rfl, rfl, rfl, by simpa using ho2⟩
    · rintro m T σ' ih ⟨i, q, hm, h6, h32, h33, h34, hq⟩
      simp only [h6, h32, h33, h34, go_sem, stepW_iaddr_isl, stepW_iaddr_msl, stepW_idxs, stepK_iaddr_isl, stepK_iaddr_msl, stepK_idxs, ne_eq, ↓reduceIte]
      refine iteW_of (fun hlt => ?_) (fun hlt => ?_)
      · have h' := of_decide_eq_true hlt
        have hlt2 : i < xs.length := by omega
        have hget : (ints xs)[i]? = some (.int .i64 xs[i]) := ints_get (by simp [hlt2])
        have hlit := hxl.2 xs[i] (List.getElem_mem hlt2)
        have htake : xs.take (i + 1) = xs.take i ++ [xs[i]] := by rw [List.take_add_one]; simp [hlt2]
        generalize xs[i] = x at hget hlit htake
        have w1 := wrap64 (a := (i : Int) + 1) (by omega) (by omega)
        have w2 := wrap64 (a := -x) (by have := hlit.2; omega) (by have := hlit.2; omega)
        have hneg : (0 : Int) - x = -x := by omega
        have c3 : (0 : Int) ≤ (i : Int) := by omega
        have gq := hq.get (upd_same _ b6 _)
        simp only [h6, h32, h33, h34, hget, w2, hneg, c3, gq, Int.toNat_natCast, go_sem, stepW_iaddr_isl, stepW_iaddr_msl, stepW_idxs, stepK_iaddr_isl, stepK_iaddr_msl, stepK_idxs, ne_eq, ↓reduceIte]
        refine SRun.appO hq src_s rfl (by omega) ?_
        intro r2 σ4 hr2
        have g4 := hr2.get (upd_same _ b6 _)
        have hr3 := hr2.one
        simp only [h6, h34, w1, g4, hr3.1, hr3.2, go_sem, stepW_iaddr_isl, stepW_iaddr_msl, stepW_idxs, stepK_iaddr_isl, stepK_iaddr_msl, stepK_idxs, ne_eq, ↓reduceIte]
        have ho4 := hr2.upd (c' := [.int .i64 vars, r2]) (upd_same _ b6 _)
        rw [upd_upd] at ho4
        refine ih (m - 1) _ _ (by omega) ⟨i + 1, r2, by omega, ?_, ?_, ?_, rfl, ?_⟩
        · simp only [go_sem, stepW_iaddr_isl, stepW_iaddr_msl, stepW_idxs, stepK_iaddr_isl, stepK_iaddr_msl, stepK_idxs, ne_eq, ↓reduceIte]; exact h6
        · simp only [go_sem, stepW_iaddr_isl, stepW_iaddr_msl, stepW_idxs, stepK_iaddr_isl, stepK_iaddr_msl, stepK_idxs, ne_eq, ↓reduceIte]; exact h32
        · simp only [go_sem, stepW_iaddr_isl, stepW_iaddr_msl, stepW_idxs, stepK_iaddr_isl, stepK_iaddr_msl, stepK_idxs, ne_eq, ↓reduceIte]; exact h33
        · rw [htake, List.map_append, ← List.append_assoc]
          exact ho4
      · have h' := of_decide_eq_false hlt
        have hiN : i = xs.length := by omega
        subst hiN
        rw [List.take_length] at hq
        have gq := hq.get (upd_same _ b6 _)
        simp only [h6, gq, go_sem, stepW_iaddr_isl, stepW_iaddr_msl, stepW_idxs, stepK_iaddr_isl, stepK_iaddr_msl, stepK_idxs, ne_eq, ↓reduceIte]
        have hnone : ∀ c, upd (upd σ b2 [.int .i64 vars, .isl false 1 (clsV cls)]) b6 [.int .i64 vars, q] c = none → σ c = none := by
          intro c hc
          exact (upd_none.1 (upd_none.1 hc).2).2
        have hb6n : σ b6 = none := by
          rw [del_ne _ hb62, upd_ne _ _ hb62] at hb6'
          exact hb6'
        have hle : ∀ c x, σ c = some x → σ' c = some x := fun c x hc => hq.get (le_upd (by rw [upd_ne _ _ hb62]; exact hb6n) _ _ (le_upd hb2 _ _ hc))
        have hcls : ClsOK vars (cls ++ xs.map fun x => [-x]) := by
          refine ⟨⟨by simp; omega, fun c hcm => ?_⟩, fun c hcm x hx => ?_⟩
          · rcases List.mem_append.1 hcm with h | h
            · exact hc.1.2 c h
            · obtain ⟨y, _, rfl⟩ := List.mem_map.1 h; simp
          · rcases List.mem_append.1 hcm with h | h
            · exact hc.2 c h x hx
            · obtain ⟨y, hy, rfl⟩ := List.mem_map.1 h
              simp at hx; subst hx
              have := hxl.2 y hy
              exact ⟨by have := this.1; omega, by have := this.2; omega⟩
        refine SRun.callQ (ACalls.pre (args := [.agg [.int .i64 vars, q]]) (args' := [cnfV vars (cls ++ xs.map fun x => [-x])]) hle rfl ?_ (leastModel_ok (σ := σ) (by omega) hcls)) ⟨[], rfl, rfl⟩ rfl ?_
        · intro j x y hx hy
          match j with
          | 0 =>
            simp at hx hy; subst hx hy
            refine .agg _ _ rfl ?_ ?_
            · intro j x hx
              match j with
              | 0 => simp at hx; subst hx; rfl
              | 1 => simp at hx; subst hx; rfl
              | j + 2 => simp at hx
            · intro j x y hy hx
              match j with
              | 0 => simp at hx hy; subst hx hy; exact .refl _
              | 1 =>
                simp at hx hy; subst hx hy
                refine own_frzG hq (by rw [clsV_len]; simp) (clsV_one _) (fun _ _ => rfl) hnone (fun j y x hy hx => ?_)
                rcases Nat.lt_or_ge j cls.length with hj | hj
                · rw [List.getElem?_append_left (by rw [clsV_len]; exact hj)] at hy
                  have hx2 : (clsV cls)[j]? = some x := by
                    rw [← hx, clsV, clsV, List.map_append, List.getElem?_append_left (by simpa using hj)]
                  rw [hy] at hx2
                  obtain rfl := Option.some.inj hx2
                  exact .refl _
                · rw [List.getElem?_append_right (by rw [clsV_len]; exact hj), clsV_len] at hy
                  simp only [clsV, List.map_append] at hx
                  rw [List.getElem?_append_right (by simpa using hj)] at hx
                  simp only [List.length_map, List.getElem?_map, Option.map_eq_some_iff] at hx hy
                  obtain ⟨u, hu, rfl⟩ := hy
                  obtain ⟨c, ⟨u2, hu2, rfl⟩, rfl⟩ := hx
                  rw [hu] at hu2
                  obtain rfl := Option.some.inj hu2
                  exact .isl _ _ _
              | j + 2 => simp at hx
          | j + 1 => simp at hx
        · rintro r s1 ⟨rfl, h | ⟨v, h, rfl⟩⟩
          · obtain ⟨hn, rfl⟩ := h
            simp only [List.getD_cons_zero, List.getD_cons_succ, go_sem, stepW_iaddr_isl, stepW_iaddr_msl, stepW_idxs, stepK_iaddr_isl, stepK_iaddr_msl, stepK_idxs, ne_eq, ↓reduceIte]
            refine W_retR c12_ok rfl ⟨?_, rfl⟩
            rw [hn]; rfl
          · simp only [List.getD_cons_zero, List.getD_cons_succ, go_sem, stepW_iaddr_isl, stepW_iaddr_msl, stepW_idxs, stepK_iaddr_isl, stepK_iaddr_msl, stepK_idxs, ne_eq, ↓reduceIte]
            refine W_retR c12_ok rfl ⟨?_, rfl⟩
            rw [h]; rfl
end Go.Proofs.Ytlojopaebdnacaa.Lg
