/- The law: a question read by the program is what the reference reads. -/
import Derived.Test.YtjibkkhgejcjeaaGreatDoorYh
set_option linter.unusedSimpArgs false
set_option linter.unusedVariables false
namespace Go.Proofs.YtjibkkhgejcjeaaGreatDoor.Lg
open Go Go.Lib
attribute [local irreducible] SRun DS DRun
variable {Γ : St} {σ σ0 : St}
theorem NetFew.len {n : Net} (h : NetFew n) : NetLen n := ⟨by have := h.routers; omega, fun s hs => by have := h.names s hs; omega, by have := h.links; omega, by have := h.origins; omega, by have := h.externals; omega, by have := h.imports; omega, by have := h.filters; omega⟩
theorem readAS_prop (a : AskR) : (prop4 a.kind a.from_ a.port a.way).length = 4 := rfl
theorem fnExactReadAsk_ok (hg : NumG Γ) (hk : Γ 0 = some (strsV kindsP)) {n : Net} {t : List UInt8} (hn : NetIn n) (ht : t.length ≤ 9223372036854775807) : Ret Tryz.prog Γ 3 [netV n, .str t] σ (.bool true) σ := by
  have hlen : ∀ n, (netC n).take 6 = netC n := fun _ => rfl
  have hcl : ∀ n, (netV n).cells = netC n := fun _ => rfl
  have hlen2 : ∀ n, (netC n).length = 6 := fun _ => rfl
  have hone : ∀ n, (∀ c, c ∈ netC n → c.one = true) = True := fun n => eq_true (net_one n)
  have hsets : ∀ n, sets [V.isl true 0 [], V.isl true 0 [], V.isl true 0 [], V.isl true 0 [], V.isl true 0 [], V.isl true 0 []] 0 (netC n) = netC n := fun _ => rfl
  have hW : t.length ≤ 65536 → AskW (wordsT t [], 0) := fun h => wordsT_AskW h (wordsT_len t []) fun w hw => by have := wordsT_mem t [] w hw; simpa using this
  refine ret_of c3_ok rfl ?_
  simp (disch := omega) only [c3, netV, go_sem]
  refine SRun.boxR (net_one n) ?_
  intro b2 hb2
  have g2 := upd_same σ b2 (netC n)
  have hσ : ∀ d y, σ d = some y → upd σ b2 (netC n) d = some y := le_upd hb2
  simp (disch := omega) only [go_sem]
  generalize upd σ b2 (netC n) = s1 at *
  first | refine iteW_dec (fun q0 => ?_) (fun q0 => ?_) | refine iteW_of (fun q0 => ?_) (fun q0 => ?_)
  · simp (disch := omega) only [go_sem]
    exact W_retC c3_ok rfl (Conv.drop _ hσ) ⟨rfl, rfl⟩
  simp (disch := omega) only [g2, hlen, hlen2, go_sem]
  refine SRun.callQ (szNet_ok hn ⟨by omega, by omega⟩) ⟨[], rfl, rfl⟩ rfl ?_
  rintro r s ⟨hs, x1, rfl, h1, h1', kf⟩
  obtain rfl := hs.symm
  simp (disch := omega) only [go_sem]
  first | refine iteW_dec (fun q1 => ?_) (fun q1 => ?_) | refine iteW_of (fun q1 => ?_) (fun q1 => ?_)
  · simp (disch := omega) only [go_sem]
    exact W_retC c3_ok rfl (Conv.drop _ hσ) ⟨rfl, rfl⟩
  have hn' := kf (by omega)
  have hr : n.routers.length ≤ 1000000000 := by have := hn'.routers; omega
  simp (disch := omega) only [g2, hlen, hlen2, go_sem]
  refine SRun.callR (toNet_ok hn') ⟨[], rfl, rfl⟩ rfl ?_
  simp (disch := omega) only [go_sem]
  refine SRun.callR (ReadAskS_of hn'.len hr hW fun h σ => l10Ask_ok hr (hW h)) ⟨[], rfl, rfl⟩ rfl ?_
  generalize ha : readAS n t = a at *
  have hp4 : ∀ a b c d, (prop4 a b c d).length = 4 := fun _ _ _ _ => rfl
  have hp4t : ∀ a b c d, (prop4 a b c d).take 4 = prop4 a b c d := fun _ _ _ _ => rfl
  have hpc : ∀ a b c d, (V.agg (prop4 a b c d)).cells = prop4 a b c d := fun _ _ _ _ => rfl
  have hp1 : ∀ a b c d, (∀ x, x ∈ prop4 a b c d → x.one = true) = True := fun a b c d => eq_true (by intro x hx; simp [prop4] at hx; rcases hx with rfl | rfl | rfl | rfl <;> rfl)
  have hps : ∀ a b c d, sets [V.int .i64 0, V.int .i64 0, V.int .i64 0, V.int .i64 0] 0 (prop4 a b c d) = prop4 a b c d := fun _ _ _ _ => rfl
  simp (disch := omega) only [go_sem]
  refine SRun.allocR ?_
  intro b6 hb6
  simp (disch := omega) only [hpc, hp4, hp1, hps, go_sem]
  have f2 := le_upd (cs := prop4 a.kind a.from_ a.port a.way) hb6 _ _ g2
  have f6 := upd_same s1 b6 (prop4 a.kind a.from_ a.port a.way)
  have hσ2 : ∀ d y, σ d = some y → upd s1 b6 (prop4 a.kind a.from_ a.port a.way) d = some y := fun d y h => le_upd hb6 _ _ (hσ d y h)
  generalize upd s1 b6 (prop4 a.kind a.from_ a.port a.way) = s2 at *
  simp (disch := omega) only [f2, hlen, hlen2, go_sem]
  refine SRun.callR (toNet_ok hn') ⟨[], rfl, rfl⟩ rfl ?_
  simp (disch := omega) only [go_sem]
  refine SRun.allocR ?_
  intro b9 hb9
  simp (disch := omega) only [hcl, hlen2, hone, hsets, go_sem]
  have j2 := le_upd (cs := netC n) hb9 _ _ f2
  have j6 := le_upd (cs := netC n) hb9 _ _ f6
  have j9 := upd_same s2 b9 (netC n)
  have hσ3 : ∀ d y, σ d = some y → upd s2 b9 (netC n) d = some y := fun d y h => le_upd hb9 _ _ (hσ2 d y h)
  generalize upd s2 b9 (netC n) = s3 at *
  simp (disch := omega) only [j9, hlen, hlen2, go_sem]
  refine SRun.callR (ReadAsk_ok hg hk hn'.len hr hW) ⟨[], rfl, rfl⟩ rfl ?_
  rw [readAI_S, ha]
  simp (disch := omega) only [go_sem]
  refine SRun.allocR ?_
  intro b10 hb10
  simp (disch := omega) only [hpc, hp4, hp1, hps, go_sem]
  have i2 := le_upd (cs := prop4 a.kind a.from_ a.port a.way) hb10 _ _ j2
  have i6 := le_upd (cs := prop4 a.kind a.from_ a.port a.way) hb10 _ _ j6
  have i9 := le_upd (cs := prop4 a.kind a.from_ a.port a.way) hb10 _ _ j9
  have i10 := upd_same s3 b10 (prop4 a.kind a.from_ a.port a.way)
  have hσ4 : ∀ d y, σ d = some y → upd s3 b10 (prop4 a.kind a.from_ a.port a.way) d = some y := fun d y h => le_upd hb10 _ _ (hσ3 d y h)
  generalize upd s3 b10 (prop4 a.kind a.from_ a.port a.way) = s4 at *
  simp (disch := omega) only [i10, i6, hp4, hp4t, go_sem]
  refine SRun.callR (eqProperty_same _ _ _ _) ⟨[], rfl, rfl⟩ rfl ?_
  have dk : ∀ x : Int, (decide ¬ (x = x)) = false := fun x => by simp
  simp (disch := omega) only [dk, go_sem]
  refine W_drawW ?_
  refine DRun.mixE rfl ?_
  simp (disch := omega) only [i9, i2, hlen, hlen2, go_sem]
  refine DS.callB (toNet_ok hn') ⟨[], rfl, rfl⟩ rfl rfl ?_
  simp (disch := omega) only [go_sem]
  refine DRun.callQ (eqNet_ok hn') ⟨[], rfl, rfl⟩ ?_
  rintro r s ⟨rfl, hs⟩
  obtain rfl := hs.symm
  simp (disch := omega) only [go_sem]
  exact W_retC c3_ok rfl (Conv.drop _ hσ4) ⟨rfl, rfl⟩
end Go.Proofs.YtjibkkhgejcjeaaGreatDoor.Lg
