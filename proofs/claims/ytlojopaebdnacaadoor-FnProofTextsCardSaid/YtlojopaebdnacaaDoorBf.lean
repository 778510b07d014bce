/- Lines of formulas and proofs that say something. -/
import Derived.Test.YtlojopaebdnacaaDoorBe
set_option linter.unusedSimpArgs false
set_option linter.unusedVariables false
namespace Go.Proofs.YtlojopaebdnacaaDoor.Lg
open Go Go.Lib
attribute [local irreducible] SRun DS DRun
variable {Γ : St} {σ σ0 : St}
def lineV (l : List Wd × Nat) : V := .agg [.isl false 2 (wdsV l.1), .int .i64 (l.2 : Int)]
def linesV (ls : List (List Wd × Nat)) : List V := ls.map lineV
theorem linesV_len (ls : List (List Wd × Nat)) : (linesV ls).length = ls.length := by simp [linesV]
theorem linesV_ok (ls : List (List Wd × Nat)) : ∀ y ∈ linesV ls, y.cells.length = 2 ∧ ∀ c ∈ y.cells, c.one = true := by
  intro y hy; obtain ⟨w, _, rfl⟩ := List.mem_map.1 hy; simp [lineV, V.cells, V.one]
/-- Where a line begins. -/
def atP (ls : List (List UInt8)) (k : Nat) : Nat := ((ls.take k).map fun l => l.length + 1).sum
theorem atP_zero (ls : List (List UInt8)) : atP ls 0 = 0 := by simp [atP]
theorem atP_succ {ls : List (List UInt8)} {k : Nat} (h : k < ls.length) : atP ls (k + 1) = atP ls k + (ls.getD k []).length + 1 := by
  unfold atP; rw [take_succ [] h]; simp; omega
theorem cutGo_sum (b : UInt8) : ∀ (t cur : List UInt8), ((cutGo b t cur).map fun l => l.length + 1).sum = t.length + cur.length + 1 := by
  intro t
  induction t with
  | nil => intro cur; simp [cutGo]
  | cons c r ih =>
    intro cur
    simp only [cutGo]
    split
    · rw [List.map_cons, List.sum_cons, ih]; simp; omega
    · rw [ih]; simp; omega
theorem atP_mono {ls : List (List UInt8)} : ∀ {j k : Nat}, j ≤ k → atP ls j ≤ atP ls k := by
  intro j k h
  induction k with
  | zero => obtain rfl : j = 0 := by omega
            exact Nat.le_refl _
  | succ k ih =>
    by_cases e : j = k + 1
    · subst e; exact Nat.le_refl _
    · have h1 := ih (by omega)
      by_cases hk : k < ls.length
      · have := atP_succ hk; omega
      · have : atP ls (k + 1) = atP ls k := by unfold atP; rw [List.take_of_length_le (by omega), List.take_of_length_le (by omega)]
        omega
theorem atP_cut {b : UInt8} {t : List UInt8} : atP (cutP b t) (cutP b t).length = t.length + 1 := by
  unfold atP; rw [List.take_length]
  have := cutGo_sum b t []
  simpa [cutP] using this
theorem atP_in {b : UInt8} {t : List UInt8} {k : Nat} (h : k < (cutP b t).length) : atP (cutP b t) k + ((cutP b t).getD k []).length ≤ t.length := by
  have h1 := atP_succ h
  have h2 := atP_mono (ls := cutP b t) (show k + 1 ≤ (cutP b t).length by omega)
  rw [atP_cut] at h2; omega
theorem atP_le {b : UInt8} {t : List UInt8} {k : Nat} (h : k ≤ (cutP b t).length) : atP (cutP b t) k ≤ t.length + 1 := by
  have h2 := atP_mono (ls := cutP b t) h
  rw [atP_cut] at h2; exact h2
theorem linesP_len : ∀ (ls : List (List UInt8)) (i : Nat), (linesP i ls).length ≤ ls.length := by
  intro ls
  induction ls with
  | nil => intro i; simp [linesP]
  | cons l r ih => intro i; simp only [linesP]; split <;> simp <;> have := ih (i + l.length + 1) <;> omega
theorem dropL {ls : List (List UInt8)} {k : Nat} (h : k < ls.length) : ls.drop k = ls.getD k [] :: ls.drop (k + 1) := drop_cons [] h
section
variable {P : Program} {f : FuncId} {n : Nat} {Q : V → St → Prop} {k : List It} {T : Ts} {g : GI} {l : List GI}
theorem wds_at {ws : List Wd} {m : Nat} (h : m < ws.length) : (wdsV ws).getD m .undef = .agg [.str (textW ws m), .int .i64 (placeW ws m)] := by
  simp [wdsV, wdV, textW, placeW, List.getD, h]
theorem stepW_iaddr_wds {ex : Bool} {ws : List Wd} {kk : IntKind} {m : Int} (h0 : 0 ≤ m) (h1 : m < ws.length) : stepW P Γ f n Q (.iaddr 2 (.c (.isl ex 2 (wdsV ws))) (.c (.int kk m))) g l k T σ = W P Γ f n Q (.ops l :: k) (putT T g.d (.iptr [.str (textW ws m.toNat), .int .i64 (placeW ws m.toNat)])) σ := by
  rw [stepW_iaddr_at h0 (by rw [wdsV_len]; exact h1), wds_at (by omega)]; rfl
theorem stepK_iaddr_wds {K : V → St → Prop} {ex : Bool} {ws : List Wd} {kk : IntKind} {m : Int} (h0 : 0 ≤ m) (h1 : m < ws.length) : stepK (.iaddr 2 (.c (.isl ex 2 (wdsV ws))) (.c (.int kk m))) σ K = K (.iptr [.str (textW ws m.toNat), .int .i64 (placeW ws m.toNat)]) σ := by
  have e : (wdsV ws)[m.toNat]? = some (.agg [.str (textW ws m.toNat), .int .i64 (placeW ws m.toNat)]) := by
    rw [← wds_at (ws := ws) (m := m.toNat) (by omega)]
    exact getD_some _ (by rw [wdsV_len]; omega)
  simp only [stepK_iaddr_isl, h0, e, if_true]; rfl
end
attribute [go_sem] stepW_iaddr_wds stepK_iaddr_wds
set_option maxHeartbeats 1000000 in
theorem formulaLines_ok (hg : NumG Γ) {t : List UInt8} (hl : t.length ≤ 100000000) : Ret Tryd.prog Γ 49 [.str t] σ (.isl false 2 (linesV (linesP 0 (cutP 10 t)))) σ := by
  have hW := fun (s : St) (line : List UInt8) (p : Nat) (h1 : line.length ≤ 1000000000) (h2 : p ≤ 1000000000) => wordsIn_ok (Γ := Γ) (σ := s) (line := line) (bs := [32, 9, 13]) (p := p) h1 h2
  simp only [blF_index] at hW
  have hin := fun k => atP_in (b := 10) (t := t) (k := k)
  have hle := fun k => atP_le (b := 10) (t := t) (k := k)
  have hcl : (cutP 10 t).length ≤ t.length + 1 := cutGo_len _ _ _
  have hLl := linesP_len (cutP 10 t) 0
  refine ret_of c49_ok rfl ?_
  simp (disch := omega) only [c49, go_sem]
  refine SRun.callR (Split_ok hg (b := 10) (by omega)) ⟨[], rfl, rfl⟩ rfl ?_
  generalize cutP 10 t = ls at *
  generalize hL : linesP 0 ls = L at *
  have hls : (ls.map V.str).length = ls.length := by simp
  simp (disch := omega) only [hls, go_sem]
  refine W_loopC (α := Nat × List (List Wd × Nat) × V × St) (fun a => a.1 ≤ ls.length ∧ OwnL σ 2 (linesV a.2.1) a.2.2.1 a.2.2.2 ∧ a.2.1 ++ linesP (atP ls a.1) (ls.drop a.1) = L) (fun a => [(0, .str t), (3, a.2.2.1), (4, .int .i64 (atP ls a.1 : Nat)), (9, .isl true 1 (ls.map .str)), (10, .int .i64 ls.length), (11, .int .i64 (a.1 : Nat))]) (fun a => a.2.2.2) (fun a => ls.length - a.1) (0, [], .isl true 0 [], σ) ⟨by simp, OwnL.nil _ 0, by simpa [atP_zero] using hL⟩ (by simp (disch := omega) only [subT, Int.natCast_add, Int.cast_ofNat_Int, atP_zero, go_sem] <;> (repeat' apply And.intro) <;> first | rfl | (congr 1; omega) | assumption) rfl ?_
  rintro ⟨k, acc, r, s⟩ ⟨hk, ho, hw⟩ ih
  dsimp only at hk ho hw
  have hkl := hle k hk
  have hal : acc.length ≤ L.length := by have := congrArg List.length hw; rw [List.length_append] at this; omega
  simp (disch := omega) only [go_sem]
  first | refine iteW_dec (fun h1 => ?_) (fun h1 => ?_) | refine iteW_of (fun h1 => ?_) (fun h1 => ?_)
  · have hk' : k < ls.length := by omega
    have hki := hin k hk'
    have has := atP_succ hk'
    rw [dropL hk'] at hw
    simp only [linesP] at hw
    have hget : (ls.map V.str)[k]? = some (.str (ls.getD k [])) := by simp [List.getD, hk']
    simp (disch := omega) only [hget, go_sem]
    generalize ls.getD k [] = line at *
    generalize atP ls k = p at *
    refine SRun.callR (hW _ line p (by omega) (by omega)) ⟨[], rfl, rfl⟩ rfl ?_
    generalize wordsP blF line p = ws at *
    have hat : (p : Int) + (line.length : Int) + 1 = ((atP ls (k + 1) : Nat) : Int) := by omega
    cases hws : ws with
    | nil =>
      subst hws
      have hwl : (wdsV []).length = 0 := rfl
      have d0 : decide (((wdsV []).length : Int) > 0) = false := rfl
      simp (disch := omega) only [d0, go_sem]
      rw [hat]
      rw [if_neg (by simp [saysF])] at hw
      exact ih (k + 1, acc, r, s) _ _ ⟨by simp only; omega, ho, by rw [has]; exact hw⟩ (by simp only; omega) (by simp (disch := omega) only [subT, Int.natCast_add, Int.cast_ofNat_Int, go_sem] <;> (repeat' apply And.intro) <;> first | rfl | (congr 1; omega) | assumption) rfl
    | cons w rest =>
      subst hws
      have hwl := wdsV_len (w :: rest)
      have d0 : decide (((wdsV (w :: rest)).length : Int) > 0) = true := decide_eq_true (by rw [hwl]; simp)
      have hw0 : 0 < (w :: rest).length := by simp
      have g0 : textW (w :: rest) 0 = w.1 := rfl
      by_cases hc : w.1 = [99]
      · have d1 : (!(w.1 == [99])) = false := by simp [hc]
        simp (disch := omega) only [d0, g0, d1, go_sem]
        rw [hat]
        rw [if_neg (by simp [saysF, hc])] at hw
        exact ih (k + 1, acc, r, s) _ _ ⟨by simp only; omega, ho, by rw [has]; exact hw⟩ (by simp only; omega) (by simp (disch := omega) only [subT, Int.natCast_add, Int.cast_ofNat_Int, go_sem] <;> (repeat' apply And.intro) <;> first | rfl | (congr 1; omega) | assumption) rfl
      · have d1 : (!(w.1 == [99])) = true := by simp [hc]
        simp (disch := omega) only [d0, g0, d1, go_sem]
        rw [if_pos (by simp [saysF, hc])] at hw
        have hpl : (p : Int) + (line.length : Int) = ((p + line.length : Nat) : Int) := by omega
        refine SRun.appL ho (ex := true) (ys := [lineV (w :: rest, p + line.length)]) (by
          show V.isl true 2 [V.agg [V.isl false 2 (wdsV (w :: rest)), V.int IntKind.i64 ((p : Int) + line.length)]] = _
          rw [hpl]; rfl) (linesV_ok [_]) (by rw [linesV_len]; simp only [List.length_singleton]; omega) ?_
        intro r7 s7 ho7
        have e7 : linesV acc ++ [lineV (w :: rest, p + line.length)] = linesV (acc ++ [(w :: rest, p + line.length)]) := by simp [linesV]
        rw [e7] at ho7
        simp (disch := omega) only [go_sem]
        rw [hat]
        exact ih (k + 1, _, r7, s7) _ _ ⟨by simp only; omega, ho7, by rw [has]; simpa using hw⟩ (by simp only; omega) (by simp (disch := omega) only [subT, Int.natCast_add, Int.cast_ofNat_Int, go_sem] <;> (repeat' apply And.intro) <;> first | rfl | (congr 1; omega) | assumption) rfl
  · obtain rfl : k = ls.length := by omega
    simp (disch := omega) only [go_sem]
    have e : acc = L := by
      rw [List.drop_length] at hw
      simpa [linesP] using hw
    subst e
    exact W_retC c49_ok rfl ho.conv ⟨rfl, rfl⟩
end Go.Proofs.YtlojopaebdnacaaDoor.Lg
