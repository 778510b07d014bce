/- A question read, by the program. -/
import Derived.Test.YtjibkkhgejcjeaaGreatDoorYd
set_option linter.unusedSimpArgs false
set_option linter.unusedVariables false
namespace Go.Proofs.YtjibkkhgejcjeaaGreatDoor.Lg
open Go Go.Lib
attribute [local irreducible] SRun DS DRun
variable {Γ : St} {σ σ0 : St}
/-- What the program answers. -/
def readAI (n : Net) (s : List UInt8) : AskR := if 65536 < s.length then .bad 2 else if netB n = false then .bad 1 else askI n.routers (wordsT s [])
theorem wordsT_AskW {s : List UInt8} (h : s.length ≤ 65536) (hL : (wordsT s []).length ≤ s.length + 1) (hM : ∀ w ∈ wordsT s [], w.length ≤ s.length) : AskW (wordsT s [], 0) := ⟨by simp only; omega, fun w hw => by have := hM w hw; omega⟩
theorem ReadAsk_ok (hg : NumG Γ) (hk : Γ 0 = some (strsV kindsP)) {n : Net} {s : List UInt8} (hn : NetLen n) (hr : n.routers.length ≤ 1000000000) (hW : s.length ≤ 65536 → AskW (wordsT s [], 0)) :
    Ret Tryz.prog Γ 9 [netV n, .str s] σ (.tup [.agg (prop4 (readAI n s).kind (readAI n s).from_ (readAI n s).port (readAI n s).way), .int .i64 (readAI n s).k, .int .i64 (readAI n s).code]) σ := by
  unfold readAI
  have hlen : (netC n).take 6 = netC n := rfl
  have hlen2 : (netC n).length = 6 := rfl
  refine ret_of c9_ok rfl ?_
  simp (disch := omega) only [c9, netV, go_sem]
  refine SRun.boxR (net_one n) ?_
  intro b2 hb2
  have g2 := upd_same σ b2 (netC n)
  have hσ : ∀ d x, σ d = some x → upd σ b2 (netC n) d = some x := le_upd hb2
  simp (disch := omega) only [go_sem]
  generalize upd σ b2 (netC n) = s1 at *
  refine SRun.allocR ?_
  intro b4 hb4
  have g4 := upd_same s1 b4 zero4
  have e24 : b2 ≠ b4 := fun e => by subst e; rw [hb4] at g2; cases g2
  have g2 : upd s1 b4 zero4 b2 = some (netC n) := by rw [upd_ne _ _ e24]; exact g2
  have e42 : ∀ d x, σ d = some x → d ≠ b4 := fun d x hd e => by subst e; rw [hσ d x hd] at hb4; cases hb4
  have hσ : ∀ d x, σ d = some x → upd s1 b4 zero4 d = some x := fun d x hd => le_upd hb4 d x (hσ d x hd)
  change W _ _ _ _ _ _ _ (upd s1 b4 zero4)
  generalize upd s1 b4 zero4 = s2 at *
  have hF : ∀ cs d x, σ d = some x → upd s2 b4 cs d = some x := fun cs d x hd => by rw [upd_ne _ _ (e42 d x hd)]; exact hσ d x hd
  unfold zero4 at g4
  by_cases hl : 65536 < s.length
  · have d0 : decide ((s.length : Int) > 65536) = true := decide_eq_true (by omega)
    simp only [if_pos hl]
    simp (disch := omega) only [d0, g4, go_sem]
    refine W_retE c9_ok (hF _) ?_
    show resV [.cell 4 true 4, .t 5, .t 6] _ _ = _
    simp [resV, resV1, look, upd_same, AskR.bad, prop4]
  · have d0 : decide ((s.length : Int) > 65536) = false := decide_eq_false (by omega)
    have hA := hW (by omega)
    simp only [if_neg hl]
    simp (disch := omega) only [d0, g2, hlen, hlen2, go_sem]
    refine SRun.callR (isNet_ok hn) ⟨[], rfl, rfl⟩ rfl ?_
    cases hb : netB n with
    | false =>
      simp (disch := omega) only [g4, go_sem]
      refine W_retE c9_ok (hF _) ?_
      show resV [.cell 4 true 4, .t 5, .t 6] _ _ = _
      simp [resV, resV1, look, upd_same, AskR.bad, prop4]
    | true =>
      simp (disch := omega) only [go_sem]
      rw [W_draw]
      refine DRun.start (DRun.mixE rfl ?_)
      simp (disch := omega) only [g2, hlen, hlen2, go_sem]
      refine DS.callB (lineWords_ok (by omega)) ⟨[], rfl, rfl⟩ rfl rfl ?_
      simp (disch := omega) only [true_and, go_sem]
      refine DRun.callQ (readAsk_ok hg hk hr hA) ⟨[], rfl, rfl⟩ ?_
      rintro _ _ ⟨rfl, rfl⟩
      simp (disch := omega) only [g4, prop4, go_sem]
      refine W_retE c9_ok (hF _) ?_
      show resV [.cell 4 true 4, .t 5, .t 6] _ _ = _
      simp [resV, resV1, look, upd_same, prop4]
end Go.Proofs.YtjibkkhgejcjeaaGreatDoor.Lg
