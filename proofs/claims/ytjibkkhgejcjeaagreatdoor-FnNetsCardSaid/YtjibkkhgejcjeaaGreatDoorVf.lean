/- An import's line read. -/
import Derived.Test.YtjibkkhgejcjeaaGreatDoorVe
set_option linter.unusedSimpArgs false
set_option linter.unusedVariables false
namespace Go.Proofs.YtjibkkhgejcjeaaGreatDoor.Lg
open Go Go.Lib
attribute [local irreducible] SRun DS DRun
variable {Γ : St} {σ σ0 : St}
theorem stepK_sla {σ : St} {K : V → St → Prop} (m : Nat) (cs : List V) : stepK (.sla m 1 (.c (.iptr cs))) σ K = (cs.length = m ∧ K (.isl true 1 cs) σ) := by
  rw [stepK_pure (fun _ => rfl)]; simp [pureK, pureI, ev]
attribute [go_sem] stepK_sla
def whenP : List Wrd := [[], [32, 105, 102, 32, 109, 97, 114, 107], [32, 105, 102, 32, 112, 108, 97, 105, 110]]
theorem doW_len (x : Imp) : 1 ≤ (doW x).length ∧ (doW x).length ≤ 2 := by
  unfold doW
  split
  · simp
  split
  · simp
  split <;> simp
set_option maxHeartbeats 2000000 in
theorem naddImport_ok (hg : NumG Γ) (hw1 : Γ 1 = some (strsV whenP)) {b : Nat} {m : Net} {qs : List V} {wa wb : Wrd} {x : Imp} (h : RdL σ0 b (lsN m) qs σ) (hx : ofN m wa x.at_) (hy : ofN m wb x.from_) (hib : impB x = true) (hlk : 0 ≤ linkP m.links x.at_ x.from_) (h12 : m.imports.length < 12) (hl : m.routers.length ≤ 100) (hll : m.links.length ≤ 100) :
    ACalls Tryz.prog Γ 109 [.ptr b 0, .isl false 1 (strsV (wImport :: wa :: wFrom :: wb :: (whenW x ++ doW x)))] σ fun r s => r = .int .i64 0 ∧ RdN σ0 b { m with imports := m.imports ++ [x] } s := by
  have hdl := doW_len x
  simp only [impB, inB, Bool.and_eq_true, decide_eq_true_eq] at hib
  obtain ⟨⟨hw, hd⟩, hn0⟩ := hib
  have hn : 0 ≤ x.n ∧ x.n ≤ 1000 ∧ (x.do_ ≠ 2 → x.n = 0) := by
    by_cases e : x.do_ = 2
    · rw [if_pos e] at hn0; exact ⟨hn0.1, hn0.2, fun h => absurd e h⟩
    · rw [if_neg e] at hn0; exact ⟨hn0.1, by omega, fun _ => by omega⟩
  have hb := h.box_
  have hfr := h.lend
  have hqo := h.ones
  obtain ⟨q0, q1, q2, q3, q4, q5, rfl, a0, a1, a2, a3, a4, a5⟩ := h.six
  obtain ⟨xa, xf, w, d, N⟩ := x
  dsimp only at hx hy hw hd hn hlk
  obtain ⟨rest, hrest⟩ : ∃ r, r = whenW ⟨xa, xf, w, d, N⟩ ++ doW ⟨xa, xf, w, d, N⟩ := ⟨_, rfl⟩
  rw [← hrest]
  have g1 : (wImport :: wa :: wFrom :: wb :: rest).getD 1 [] = wa := rfl
  have g3 : (wImport :: wa :: wFrom :: wb :: rest).getD 3 [] = wb := rfl
  have p1 : 1 < (wImport :: wa :: wFrom :: wb :: rest).length := by simp
  have p3 : 3 < (wImport :: wa :: wFrom :: wb :: rest).length := by simp
  have hlw := strsV_len (wImport :: wa :: wFrom :: wb :: rest)
  have hdr : List.take (((rest.length + 1 + 1 + 1 + 1 : Nat) : Int) - 4).toNat (List.drop 4 (strsV (wImport :: wa :: wFrom :: wb :: rest))) = strsV rest := by
    rw [show (((rest.length + 1 + 1 + 1 + 1 : Nat) : Int) - 4).toNat = (strsV rest).length by rw [strsV_len]; omega]
    exact List.take_length
  refine acalls_W c109_ok rfl ?_
  simp (disch := omega) only [c109, go_sem]
  refine W_drawW ?_
  simp (disch := omega) only [g1, g3, go_sem]
  refine DRun.callQ (ntwo_ok h hx hy hl) ⟨[], rfl, rfl⟩ ?_
  rintro r s ⟨rfl, hs⟩
  obtain rfl := hs.symm
  simp (disch := omega) only [go_sem]
  refine SRun.allocR ?_
  intro b8 hb8
  have hbz : ∀ z, upd σ b8 z b = some [q0, q1, q2, q3, q4, q5] := fun z => le_upd hb8 _ _ hb
  have hz : ∀ z, RdL σ0 b (lsN m) [q0, q1, q2, q3, q4, q5] (upd σ b8 z) := fun z => h.mono (le_upd hb8)
  simp (disch := omega) only [upd_same, upd_upd, hlw, List.length_cons, go_sem]
  simp only [hdr]
  obtain ⟨D, hD⟩ : ∃ D, D = doW ⟨xa, xf, w, d, N⟩ := ⟨_, rfl⟩
  rw [← hD] at hrest hdl
  have hev : ∀ T, ev Γ T (.g 1) = .iptr (strsV whenP) := fun T => by simp [ev, hw1]
  have hw3 : (strsV whenP).length = 3 := rfl
  clear hdr hlw p1 p3 g1 g3
  rcases (by omega : w = 0 ∨ w = 1 ∨ w = 2) with hwv | hwv | hwv
  case' inl =>
    have hr2 : rest = D := by rw [hrest]; subst hwv; rfl
    rw [hr2]
    have hl2 := strsV_len D
    have d5 : decide ((D.length : Int) > 2) = false := decide_eq_false (by omega)
    simp (disch := omega) only [hl2, d5, go_sem]
    rw [show [V.int .i64 xa, V.int .i64 xf, V.int .i64 0, V.int .i64 0, V.int .i64 0] = [V.int .i64 xa, V.int .i64 xf, V.int .i64 w, V.int .i64 0, V.int .i64 0] by rw [hwv]]
    clear hr2 hl2 d5
  case' inr.inl =>
    have hr2 : rest = wIf :: wMark :: D := by rw [hrest]; subst hwv; rfl
    rw [hr2]
    have q0 : (wIf :: wMark :: D).getD 0 [] = wIf := rfl
    have q1 : (wIf :: wMark :: D).getD 1 [] = wMark := rfl
    have hq0 : 0 < (wIf :: wMark :: D).length := by simp
    have hq1 : 1 < (wIf :: wMark :: D).length := by simp
    have hl2 : (strsV (wIf :: wMark :: D)).length = D.length + 1 + 1 := by rw [strsV_len]; rfl
    have d5 : decide (((D.length + 1 + 1 : Nat) : Int) > 2) = true := decide_eq_true (by omega)
    have dif : (wIf == [105, 102]) = true := by decide
    have hI := fun σ => indexStr_ok (Γ := Γ) (σ := σ) (ex := true) (ss := whenP) (w := [32, 105, 102, 32, 109, 97, 114, 107]) (by decide)
    have hIv : placeP whenP [32, 105, 102, 32, 109, 97, 114, 107] = 1 := by decide
    rw [hIv] at hI
    have hdr2 : List.take (((D.length + 1 + 1 : Nat) : Int) - 2).toNat (List.drop 2 (strsV (wIf :: wMark :: D))) = strsV D := by
      rw [show (((D.length + 1 + 1 : Nat) : Int) - 2).toNat = (strsV D).length by rw [strsV_len]; omega]
      exact List.take_length
    simp (disch := omega) only [hl2, d5, q0, dif, go_sem]
    refine W_drawW ?_
    have hwl : wMark.length ≤ 9 := by decide
    simp (disch := omega) only [hev, hw3, q1, true_and, List.length_cons, List.length_nil, go_sem]
    refine DRun.callQ (hI _) ⟨[], rfl, rfl⟩ ?_
    rintro r s ⟨rfl, hs⟩
    obtain rfl := hs.symm
    simp (disch := omega) only [upd_same, upd_upd, hl2, go_sem]
    simp only [hdr2]
    rw [show [V.int .i64 xa, V.int .i64 xf, V.int .i64 1, V.int .i64 0, V.int .i64 0] = [V.int .i64 xa, V.int .i64 xf, V.int .i64 w, V.int .i64 0, V.int .i64 0] by rw [hwv]]
    clear hr2 q0 q1 hq0 hq1 hl2 d5 dif hI hIv hdr2 hwl
  case' inr.inr =>
    have hr2 : rest = wIf :: wPlain :: D := by rw [hrest]; subst hwv; rfl
    rw [hr2]
    have q0 : (wIf :: wPlain :: D).getD 0 [] = wIf := rfl
    have q1 : (wIf :: wPlain :: D).getD 1 [] = wPlain := rfl
    have hq0 : 0 < (wIf :: wPlain :: D).length := by simp
    have hq1 : 1 < (wIf :: wPlain :: D).length := by simp
    have hl2 : (strsV (wIf :: wPlain :: D)).length = D.length + 1 + 1 := by rw [strsV_len]; rfl
    have d5 : decide (((D.length + 1 + 1 : Nat) : Int) > 2) = true := decide_eq_true (by omega)
    have dif : (wIf == [105, 102]) = true := by decide
    have hI := fun σ => indexStr_ok (Γ := Γ) (σ := σ) (ex := true) (ss := whenP) (w := [32, 105, 102, 32, 112, 108, 97, 105, 110]) (by decide)
    have hIv : placeP whenP [32, 105, 102, 32, 112, 108, 97, 105, 110] = 2 := by decide
    rw [hIv] at hI
    have hdr2 : List.take (((D.length + 1 + 1 : Nat) : Int) - 2).toNat (List.drop 2 (strsV (wIf :: wPlain :: D))) = strsV D := by
      rw [show (((D.length + 1 + 1 : Nat) : Int) - 2).toNat = (strsV D).length by rw [strsV_len]; omega]
      exact List.take_length
    simp (disch := omega) only [hl2, d5, q0, dif, go_sem]
    refine W_drawW ?_
    have hwl : wPlain.length ≤ 9 := by decide
    simp (disch := omega) only [hev, hw3, q1, true_and, List.length_cons, List.length_nil, go_sem]
    refine DRun.callQ (hI _) ⟨[], rfl, rfl⟩ ?_
    rintro r s ⟨rfl, hs⟩
    obtain rfl := hs.symm
    simp (disch := omega) only [upd_same, upd_upd, hl2, go_sem]
    simp only [hdr2]
    rw [show [V.int .i64 xa, V.int .i64 xf, V.int .i64 2, V.int .i64 0, V.int .i64 0] = [V.int .i64 xa, V.int .i64 xf, V.int .i64 w, V.int .i64 0, V.int .i64 0] by rw [hwv]]
    clear hr2 q0 q1 hq0 hq1 hl2 d5 dif hI hIv hdr2 hwl
  all_goals
    clear hwv hrest
    have bDD : (wDeny == [100, 101, 110, 121]) = true := by decide
    have bMD : (wMark == [100, 101, 110, 121]) = false := by decide
    have bMM : (wMark == [109, 97, 114, 107]) = true := by decide
    have bCD : (wClear == [100, 101, 110, 121]) = false := by decide
    have bCM : (wClear == [109, 97, 114, 107]) = false := by decide
    have bCC : (wClear == [99, 108, 101, 97, 114]) = true := by decide
    have bPP : (wPref == [112, 114, 101, 102]) = true := by decide
    have hl1 : ∀ a : Wrd, (strsV [a]).length = 1 := fun _ => rfl
    have hl2 : ∀ a c : Wrd, (strsV [a, c]).length = 2 := fun _ _ => rfl
    have q0 : ∀ (a : Wrd) (r : List Wrd), (a :: r).getD 0 [] = a := fun _ _ => rfl
    have q1 : ∀ (a c : Wrd) (r : List Wrd), (a :: c :: r).getD 1 [] = c := fun _ _ _ => rfl
    have p10 : ∀ a : Wrd, 0 < [a].length := fun _ => by simp
    have p20 : ∀ a c : Wrd, 0 < [a, c].length := fun _ _ => by simp
    have p21 : ∀ a c : Wrd, 1 < [a, c].length := fun _ _ => by simp
    rcases (by omega : d = 1 ∨ d = 2 ∨ d = 3 ∨ d = 4) with hdv | hdv | hdv | hdv
  all_goals first
    | (have hDv : D = [wDeny] := by rw [hD]; subst hdv; rfl
       have pp := p10 wDeny
       have hN0 := hn.2.2 (by omega)
       rw [hDv]
       simp (disch := omega) only [hl1, q0, p10, bDD, List.length_singleton, List.length_cons, List.length_nil, upd_same, upd_upd, go_sem]
       rw [show [V.int .i64 xa, V.int .i64 xf, V.int .i64 w, V.int .i64 1, V.int .i64 0] = [V.int .i64 xa, V.int .i64 xf, V.int .i64 w, V.int .i64 d, V.int .i64 N] by rw [hdv, hN0]])
    | (have hDv : D = [wMark] := by rw [hD]; subst hdv; rfl
       have pp := p10 wMark
       have hN0 := hn.2.2 (by omega)
       rw [hDv]
       simp (disch := omega) only [hl1, q0, p10, bMD, bMM, List.length_singleton, List.length_cons, List.length_nil, upd_same, upd_upd, go_sem]
       rw [show [V.int .i64 xa, V.int .i64 xf, V.int .i64 w, V.int .i64 3, V.int .i64 0] = [V.int .i64 xa, V.int .i64 xf, V.int .i64 w, V.int .i64 d, V.int .i64 N] by rw [hdv, hN0]])
    | (have hDv : D = [wClear] := by rw [hD]; subst hdv; rfl
       have pp := p10 wClear
       have hN0 := hn.2.2 (by omega)
       rw [hDv]
       simp (disch := omega) only [hl1, q0, p10, bCD, bCM, bCC, List.length_singleton, List.length_cons, List.length_nil, upd_same, upd_upd, go_sem]
       rw [show [V.int .i64 xa, V.int .i64 xf, V.int .i64 w, V.int .i64 4, V.int .i64 0] = [V.int .i64 xa, V.int .i64 xf, V.int .i64 w, V.int .i64 d, V.int .i64 N] by rw [hdv, hN0]])
    | (have hDv : D = [wPref, itoa N] := by rw [hD]; subst hdv; rfl
       have pp := p20 wPref (itoa N)
       have pp1 := p21 wPref (itoa N)
       have hil := itoa_len (n := N) (by omega) (by omega)
       have hB := fun σ => bounded_ok (Γ := Γ) (σ := σ) hg (t := itoa N) (lo := 0) (hi := 1000) (by omega)
       have hbp : boundP (itoa N) 0 1000 = (N, 0) := by unfold boundP; rw [numP_itoa (by omega) (by omega)]; simp only; rw [if_pos (by omega)]
       rw [hbp] at hB
       rw [hDv]
       simp (disch := omega) only [hl2, q0, q1, p20, p21, bPP, List.length_cons, List.length_nil, upd_same, upd_upd, go_sem]
       refine SRun.callR (hB _) ⟨[], rfl, rfl⟩ rfl ?_
       simp (disch := omega) only [List.length_singleton, List.length_cons, List.length_nil, upd_same, upd_upd, go_sem]
       rw [show [V.int .i64 xa, V.int .i64 xf, V.int .i64 w, V.int .i64 2, V.int .i64 N] = [V.int .i64 xa, V.int .i64 xf, V.int .i64 w, V.int .i64 d, V.int .i64 N] by rw [hdv]])
  all_goals
    have hb' := hbz [V.int .i64 xa, V.int .i64 xf, V.int .i64 w, V.int .i64 d, V.int .i64 N]
    have h8' := upd_same σ b8 [V.int .i64 xa, V.int .i64 xf, V.int .i64 w, V.int .i64 d, V.int .i64 N]
    have hR' := hz [V.int .i64 xa, V.int .i64 xf, V.int .i64 w, V.int .i64 d, V.int .i64 N]
    clear hbz hz bDD bMD bMM bCD bCM bCC bPP hl1 hl2 q0 q1 p10 p20 p21
    have ht6 : ([q0, q1, q2, q3, q4, q5] : List V).take 6 = [q0, q1, q2, q3, q4, q5] := rfl
    have a4' : At _ 5 (impsV m.imports) q4 := hR'.at_ 4 (by simp [lsN])
    have n4 : blk q4 ≠ some b := hR'.nb 4 (by simp [lsN])
    have n48 : blk q4 ≠ some b8 := fun e => by
      have := a4.has e
      rw [hb8] at this; cases this
    have dlk : decide (linkP m.links xa xf < 0) = false := decide_eq_false (by omega)
    have d12 : decide ((m.imports.length : Int) = 12) = false := decide_eq_false (by omega)
    generalize upd σ b8 [V.int .i64 xa, V.int .i64 xf, V.int .i64 w, V.int .i64 d, V.int .i64 N] = s8 at *
    simp (disch := omega) only [hb', ht6, go_sem]
    refine SRun.callR (Ret.lendL (linkOf_ok (Γ := Γ) (σ := emp) (n := m) (x := xa) (y := xf) (by omega)) (by exact ⟨hR'.lend, .refl _, .refl _, trivial⟩) (Plain.int _ _)) ⟨[], rfl, rfl⟩ rfl ?_
    simp (disch := omega) only [hb', dlk, stepW_len_at a4', impsV_len, d12, go_sem]
    rw [W_draw]
    refine DRun.start (DRun.mixAt a4' rfl fun sr sw hsr hat hup => ?_)
    have r1 : sr b = some [q0, q1, q2, q3, q4, q5] := by rw [hsr b n4]; exact hb'
    have r8 : sr b8 = some [V.int .i64 xa, V.int .i64 xf, V.int .i64 w, V.int .i64 d, V.int .i64 N] := by rw [hsr b8 n48]; exact h8'
    simp (disch := omega) only [r1, r8, go_sem]
    refine DS.wrQ (WrF.appAt (ys := [.agg (impC ⟨xa, xf, w, d, N⟩)]) hat (by exact src_isl) rfl (by intro z hz; rw [List.mem_singleton.1 hz]; exact ⟨rfl, by simp [V.cells, V.one, impC]⟩) (by show ((impsV m.imports).length + 1) * 40 ≤ _; rw [impsV_len]; omega)) rfl ?_
    intro q' s' hA hd
    have hA2 := hup _ _ _ hA hd
    have hA3 : AppAt s8 5 (impsV (m.imports ++ [⟨xa, xf, w, d, N⟩])) q4 q' (cup s' sr) := by rw [← impsV_app]; exact hA2
    obtain ⟨hsb, hRR⟩ := hR'.put (i := 4) (by simp [lsN]) rfl hA3
    have hqc := hA3.at_.cells
    have hq1 := one_only hA3.at_.one
    clear hA hA2
    simp (disch := omega) only [hsb, hqc, hq1, List.length_singleton, go_sem]
    exact W_retR c109_ok rfl ⟨rfl, _, hRR⟩
end Go.Proofs.YtjibkkhgejcjeaaGreatDoor.Lg
