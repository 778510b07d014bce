/- The law FnExactReadProof over its code. -/
import Derived.Test.YtlojopaebdnacaaDoorBm
set_option linter.unusedSimpArgs false
set_option linter.unusedVariables false
namespace Go.Proofs.YtlojopaebdnacaaDoor.Lg
open Go Go.Lib
attribute [local irreducible] SRun DS DRun
variable {Γ : St} {σ σ0 : St}
theorem stepGo_small : ∀ (ws : List Wd) (c : List Int) (e : Int), c.length ≤ 12 → (stepGo ws c e).1.length ≤ 12 := by
  intro ws
  induction ws with
  | nil => intro c e h; exact h
  | cons w r ih =>
    intro c e h
    simp only [stepGo]
    split
    · exact h
    · split
      · split <;> exact h
      · split
        · exact h
        · split
          · exact h
          · exact ih _ _ (by simp; omega)
theorem proofGo_small : ∀ (ls : List (List Wd × Nat)) (acc : List (Bool × List Int)), acc.length ≤ 200 → (∀ s ∈ acc, s.2.length ≤ 12) → (proofGo ls acc).1.length ≤ 200 ∧ ∀ s ∈ (proofGo ls acc).1, s.2.length ≤ 12 := by
  intro ls
  induction ls with
  | nil => intro acc h1 h2; exact ⟨h1, h2⟩
  | cons l r ih =>
    intro acc h1 h2
    simp only [proofGo]
    split
    · exact ⟨by simp, fun s hs => by cases hs⟩
    · split
      · exact ⟨by simp, fun s hs => by cases hs⟩
      · refine ih _ (by simp; omega) fun s hs => ?_
        rcases List.mem_append.1 hs with h | h
        · exact h2 s h
        · rw [List.mem_singleton.1 h]; exact stepGo_small _ _ _ (by simp)
theorem proofP_small (t : List UInt8) : (proofP t).1.length ≤ 200 ∧ ∀ s ∈ (proofP t).1, s.2.length ≤ 12 := by
  unfold proofP
  split
  · exact ⟨by simp, fun s hs => by cases hs⟩
  · exact proofGo_small _ [] (by simp) (fun s hs => by cases hs)
theorem endS_le : ∀ (ls : List Nat) (k : Int), (∀ n ∈ ls, n ≤ 12) → endS k ls ≤ k + 13 * ls.length := by
  intro ls
  induction ls with
  | nil => intro k _; simp [endS]
  | cons n r ih =>
    intro k h
    have h1 := ih (k + 1 + n) fun m hm => h m (by simp [hm])
    have h2 := h n (by simp)
    simp only [endS, List.length_cons]; omega
theorem LLA.conv {α : Type} {pre row : α → List V} {k es : Nat} {vs : List α} {q : V} {qs : List V} {s : St} (hp : PreOK pre k) (h : LLA σ k es pre row vs q qs s) (hle : ∀ b c, σ b = some c → s b = some c) : Conv s q σ (.isl false k (elsF pre row es vs)) :=
  ⟨hle, h.frz hp h.new h.rows.new⟩
theorem LLA.lend {α : Type} {pre row : α → List V} {k es : Nat} {vs : List α} {q : V} {qs : List V} {s : St} (hp : PreOK pre k) (h : LLA σ0 k es pre row vs q qs s) : Frz s emp q (.isl false k (elsF pre row es vs)) := h.frz hp (fun _ _ => rfl) fun _ _ _ _ => rfl
theorem ReadProof_ok (hg : NumG Γ) {t : List UInt8} (hl : t.length ≤ 10000000) : Ret Tryd.prog Γ 20 [.str t] σ (.tup [.isl false 2 (stV (proofP t).1), .int .i64 (proofP t).2.1, .int .i64 (proofP t).2.2]) σ :=
  (ReadProof_own hg hl).conv fun r s ⟨hle, q, qs, e, h⟩ => by
    subst e
    exact ⟨_, _, ⟨hle, frz_tup (by exact ⟨(h.conv preS_ok hle).2, .refl _, .refl _, trivial⟩)⟩, rfl, rfl⟩
theorem specReadProof_ok {t : List UInt8} (hl : t.length ≤ 10000000) : Ret Tryd.prog Γ 22 [.str t] σ (.tup [.isl false 2 (stV (proofP t).1), .int .i64 (proofP t).2.1, .int .i64 (proofP t).2.2]) σ :=
  (specReadProof_own hl).conv fun r s ⟨hle, q, qs, e, h⟩ => by
    subst e
    exact ⟨_, _, ⟨hle, frz_tup (by exact ⟨(h.conv preS_ok hle).2, .refl _, .refl _, trivial⟩)⟩, rfl, rfl⟩
set_option maxHeartbeats 2000000 in
theorem fnExactReadProof_ok (hg : NumG Γ) {t : List UInt8} (hl : t.length ≤ 9223372036854775807) : Ret Tryd.prog Γ 6 [.str t] σ (.bool true) σ := by
  refine ret_of c6_ok rfl ?_
  simp (disch := omega) only [c6, go_sem]
  first | refine iteW_dec (fun h1 => ?_) (fun h1 => ?_) | refine iteW_of (fun h1 => ?_) (fun h1 => ?_)
  · simp (disch := omega) only [go_sem]
    exact W_retR c6_ok rfl ⟨rfl, rfl⟩
  have hl2 : t.length ≤ 10000000 := by omega
  obtain ⟨p1, p2⟩ := proofP_small t
  have F1 := fun Γ σ => specReadProof_ok (Γ := Γ) (σ := σ) hl2
  have F2 := fun σ => ReadProof_ok (Γ := Γ) (σ := σ) hg hl2
  have F3 := ReadProof_own (Γ := Γ) (σ := σ) hg hl2
  generalize proofP t = R at *
  obtain ⟨st, code, place⟩ := R
  dsimp only at *
  have hll : (st.map fun s => s.2.length).length = st.length := by simp
  have hle13 := endS_le (st.map fun s => s.2.length) 1 (fun n hn => by obtain ⟨s, hs, rfl⟩ := List.mem_map.1 hn; exact p2 s hs)
  have hge := endS_ge (st.map fun s => s.2.length) 1
  have H1 := fun Γ σ => heldStepS_ok (Γ := Γ) (σ := σ) (ex := false) (ls := st.map fun s => s.2.length) (k := 1) (by omega) (fun n hn => by obtain ⟨s, hs, rfl⟩ := List.mem_map.1 hn; have := p2 s hs; omega) (by omega) (by omega)
  have E1 := fun Γ σ => eqStepS_ok (Γ := Γ) (σ := σ) (ex := false) (ex2 := false) (st := st) (by omega) (fun s hs => by have := p2 s hs; omega)
  have hcc : (decide ¬ code = code) = false := by simp
  have hpp : (decide ¬ place = place) = false := by simp
  have hnt : (!true) = false := rfl
  simp (disch := omega) only [go_sem]
  refine SRun.callR (F1 _ _) ⟨[], rfl, rfl⟩ rfl ?_
  simp (disch := omega) only [go_sem]
  refine SRun.callQ F3 ⟨[], rfl, rfl⟩ rfl ?_
  rintro r s1 ⟨hle, q, qs, rfl, hA⟩
  simp (disch := omega) only [go_sem]
  refine SRun.callR (Ret.lendL (E1 _ _) (by exact ⟨hA.lend preS_ok, .refl _, trivial⟩) (Plain.bool _)) ⟨[], rfl, rfl⟩ rfl ?_
  simp (disch := omega) only [hcc, hpp, hnt, go_sem]
  refine SRun.callQ (markStepS_at (k := 1) hA (by omega) (fun s hs => by have := p2 s hs; omega) (by omega) (by omega)) ⟨[], rfl, rfl⟩ rfl ?_
  rintro r s2 ⟨rfl, hM, hfr⟩
  have hle2 : ∀ b c, σ b = some c → s2 b = some c := fun b c h => by
    rw [hfr b (fun e => by rw [hA.new b e] at h; cases h) (fun m hm e => by rw [hA.rows.new m hm b e] at h; cases h)]
    exact hle b c h
  generalize endS 1 (st.map fun s => s.2.length) = E at *
  generalize hMM : markS 1 (st.map fun s => s.2.length) = M at *
  have d0 : decide (E < 0) = false := decide_eq_false (by omega)
  have dE : (decide ¬ E = E) = false := by simp
  simp (disch := omega) only [go_sem]
  refine SRun.callR (Ret.lendL (H1 _ _) (by exact ⟨hM.lend preS_ok, .refl _, trivial⟩) (Plain.int _ _)) ⟨[], rfl, rfl⟩ rfl ?_
  simp (disch := omega) only [d0, dE, go_sem]
  refine SRun.callR (F2 _) ⟨[], rfl, rfl⟩ rfl ?_
  simp (disch := omega) only [go_sem]
  refine SRun.callR (E1 _ _) ⟨[], rfl, rfl⟩ rfl ?_
  simp (disch := omega) only [hcc, hpp, hnt, go_sem]
  refine SRun.callR (Ret.lendL (H1 _ _) (by exact ⟨hM.lend preS_ok, .refl _, trivial⟩) (Plain.int _ _)) ⟨[], rfl, rfl⟩ rfl ?_
  simp (disch := omega) only [d0, dE, go_sem]
  exact W_retC c6_ok rfl (Conv.drop _ hle2) ⟨rfl, rfl⟩
end Go.Proofs.YtlojopaebdnacaaDoor.Lg
