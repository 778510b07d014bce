/- The words of a line, by the program and by the reference. -/
import Derived.Test.YtjibkkhgejcjeaaGreatDoorYb
import Derived.Test.YtjibkkhgejcjeaaGreatDoorBd
import Derived.Test.YtjibkkhgejcjeaaGreatDoorHo
set_option linter.unusedSimpArgs false
set_option linter.unusedVariables false
namespace Go.Proofs.YtjibkkhgejcjeaaGreatDoor.Lg
open Go Go.Lib
attribute [local irreducible] SRun DS DRun
variable {Γ : St} {σ σ0 : St}
theorem blS_index : (fun c => decide (0 ≤ indexByte [32] c)) = blS := by
  funext c
  have : (0 ≤ indexByte [32] c) ↔ c = 32 := by rw [indexByte_pos]; simp
  simp only [this, blS]
  by_cases h1 : c = 32 <;> simp [h1]
/-- A list in the making: new, and what stood stands. -/
def LisAt (σ0 : St) (es : Nat) (xs : List V) (q : V) (s : St) : Prop := At s es xs q ∧ (∀ b, blk q = some b → σ0 b = none) ∧ ∀ b c, σ0 b = some c → s b = some c
theorem LisAt.mono {es : Nat} {xs : List V} {q : V} {s s' : St} (h : LisAt σ0 es xs q s) (hs : ∀ b c, s b = some c → s' b = some c) : LisAt σ0 es xs q s' := ⟨h.1.mono hs, h.2.1, fun b c hb => hs _ _ (h.2.2 b c hb)⟩
theorem LisAt.app {es : Nat} {xs ys : List V} {q q' : V} {t t' : St} (h : LisAt σ0 es xs q t) (ha : AppAt t es ys q q' t') : LisAt σ0 es ys q' t' := by
  obtain ⟨h1, h2, h3⟩ := h
  refine ⟨ha.at_, fun b hb => ?_, fun b c hb => ?_⟩
  · rcases ha.blk_ b hb with h | h
    · exact h2 b h
    · exact none_of h3 b h
  · have hq : blk q ≠ some b := fun e => by rw [h2 b e] at hb; cases hb
    rw [ha.keep b hq (fun e => (ha.blk_ b e).elim hq (fun e2 => by rw [h3 b c hb] at e2; cases e2))]
    exact h3 b c hb
theorem LisAt.conv {es : Nat} {xs : List V} {q : V} {s : St} (h : LisAt σ0 es xs q s) : Conv s q σ0 (.isl false es xs) := ⟨h.2.2, h.1.frz h.2.1⟩
theorem strsV_app (a : List (List UInt8)) (w : List UInt8) : strsV a ++ [.str w] = strsV (a ++ [w]) := by simp [strsV]
theorem strs_okT (a : List (List UInt8)) : ∀ y ∈ strsV a, y.cells.length = 1 ∧ ∀ c ∈ y.cells, c.one = true := by
  intro y hy
  obtain ⟨x, _, rfl⟩ := List.mem_map.1 hy
  exact ⟨rfl, by simp [V.cells, V.one]⟩
section
variable {P : Program} {f : FuncId} {n : Nat} {Q : V → St → Prop} {k : List It} {T : Ts} {g : GI} {l : List GI}
theorem stepW_iaddr_wdsT {ex : Bool} {ws : List Wd} {kk : IntKind} {m : Int} (h0 : 0 ≤ m) (h1 : m < ws.length) : stepW P Γ f n Q (.iaddr 2 (.c (.isl ex 2 (wdsV ws))) (.c (.int kk m))) g l k T σ = W P Γ f n Q (.ops l :: k) (putT T g.d (.iptr [.str (textW ws m.toNat), .int .i64 (placeW ws m.toNat)])) σ := by
  have e : (wdsV ws).getD m.toNat .undef = .agg [.str (textW ws m.toNat), .int .i64 (placeW ws m.toNat)] := by
    have : m.toNat < ws.length := by omega
    simp [wdsV, wdV, textW, placeW, List.getD, this]
  rw [stepW_iaddr_at h0 (by rw [wdsV_len]; exact h1), e]; rfl
end
attribute [go_sem] stepW_iaddr_wdsT
end Go.Proofs.YtjibkkhgejcjeaaGreatDoor.Lg
