/- The words of a line, by the program and by the reference. -/
import Derived.Test.YtjibkkhgejcjeaaGreatDoorYb
import Derived.Test.YtjibkkhgejcjeaaGreatDoorBd
import Derived.Test.YtjibkkhgejcjeaaGreatDoorHo
set_option linter.unusedSimpArgs false
set_option linter.unusedVariables false
namespace Go.Proofs.YtjibkkhgejcjeaaGreatDoor.Lg
open Go Go.Lib
attribute [local irreducible] SRun DS DRun
variable {Γ : St} {σ σ0 : St}
theorem blS_index : (fun c => decide (0 ≤ indexByte [32] c)) = blS := by
  funext c
  have : (0 ≤ indexByte [32] c) ↔ c = 32 := by rw [indexByte_pos]; simp
  simp only [this, blS]
  by_cases h1 : c = 32 <;> simp [h1]
/-- A list in the making: new, and what stood stands. -/
def LisAt (σ0 : St) (es : Nat) (xs : List V) (q : V) (s : St) : Prop := At s es xs q ∧ (∀ b, blk q = some b → σ0 b = none) ∧ ∀ b c, σ0 b = some c → s b = some c
theorem LisAt.mono {es : Nat} {xs : List V} {q : V} {s s' : St} (h : LisAt σ0 es xs q s) (hs : ∀ b c, s b = some c → s' b = some c) : LisAt σ0 es xs q s' := ⟨h.1.mono hs, h.2.1, fun b c hb => hs _ _ (h.2.2 b c hb)⟩
theorem LisAt.app {es : Nat} {xs ys : List V} {q q' : V} {t t' : St} (h : LisAt σ0 es xs q t) (ha : AppAt t es ys q q' t') : LisAt σ0 es ys q' t' := by
  obtain ⟨h1, h2, h3⟩ := h
  refine ⟨ha.at_, fun b hb => ?_, fun b c hb => ?_⟩
  · rcases ha.blk_ b hb with h | h
    · exact h2 b h
    · exact none_of h3 b h
  · have hq : blk q ≠ some b := fun e => by rw [h2 b e] at hb; cases hb
    rw [ha.keep b hq (fun e => (ha.blk_ b e).elim hq (fun e2 => by rw [h3 b c hb] at e2; cases e2))]
    exact h3 b c hb
theorem LisAt.conv {es : Nat} {xs : List V} {q : V} {s : St} (h : LisAt σ0 es xs q s) : Conv s q σ0 (.isl false es xs) := ⟨h.2.2, h.1.frz h.2.1⟩
theorem strsV_app (a : List (List UInt8)) (w : List UInt8) : strsV a ++ [.str w] = strsV (a ++ [w]) := by simp [strsV]
section
variable {P : Program} {f : FuncId} {n : Nat} {Q : V → St → Prop} {k : List It} {T : Ts} {g : GI} {l : List GI}
theorem stepW_iaddr_wdsT {ex : Bool} {ws : List Wd} {kk : IntKind} {m : Int} (h0 : 0 ≤ m) (h1 : m < ws.length) : stepW P Γ f n Q (.iaddr 2 (.c (.isl ex 2 (wdsV ws))) (.c (.int kk m))) g l k T σ = W P Γ f n Q (.ops l :: k) (putT T g.d (.iptr [.str (textW ws m.toNat), .int .i64 (placeW ws m.toNat)])) σ := by
  have e : (wdsV ws).getD m.toNat .undef = .agg [.str (textW ws m.toNat), .int .i64 (placeW ws m.toNat)] := by
    have : m.toNat < ws.length := by omega
    simp [wdsV, wdV, textW, placeW, List.getD, this]
  rw [stepW_iaddr_at h0 (by rw [wdsV_len]; exact h1), e]; rfl
end
attribute [go_sem] stepW_iaddr_wdsT
theorem lineWords_ok {line : List UInt8} (hl : line.length ≤ 1000000) : Ret Tryz.prog Γ 37 [.str line] σ (.isl false 1 (strsV (wordsT line []))) σ := by
  have hW := fun σ => wordsIn_ok (Γ := Γ) (σ := σ) (line := line) (bs := [32]) (p := 0) (by omega) (by omega)
  rw [blS_index] at hW
  have hWl : (wordsP blS line 0).length ≤ line.length + 1 := wordsGo_len _ _ _
  have hT : (wordsP blS line 0).map (·.1) = wordsT line [] := wordsT_go line 0 []
  rw [← hT]
  generalize wordsP blS line 0 = ws at *
  have hwn := wdsV_len ws
  have hlen2 : ∀ x y : V, [x, y].take 2 = [x, y] := fun _ _ => rfl
  refine ret_of c37_ok rfl ?_
  simp (disch := omega) only [c37, go_sem]
  refine SRun.callR (hW _) ⟨[], rfl, rfl⟩ rfl ?_
  simp (disch := omega) only [hwn, go_sem]
  refine W_loopC (α := Nat × V × St) (fun a => a.1 ≤ ws.length ∧ LisAt σ 1 (strsV ((ws.take a.1).map (·.1))) a.2.1 a.2.2) (fun a => [(3, a.2.1), (7, .isl false 2 (wdsV ws)), (8, .int .i64 ws.length), (9, .int .i64 (a.1 : Nat))]) (fun a => a.2.2) (fun a => ws.length - a.1) (0, .isl true 0 [], σ) ⟨by simp, ⟨fun x hx => (by simp [strsV] at hx), .inl ⟨by simp [strsV], 0, rfl⟩⟩, fun b hb => (by cases hb), fun _ _ h => h⟩ (by simp (disch := omega) only [subT, Int.natCast_add, Int.cast_ofNat_Int, go_sem] <;> (repeat' apply And.intro) <;> first | rfl | (congr 1; omega) | assumption) rfl ?_
  rintro ⟨i, q, s⟩ ⟨hi, hL⟩ ih
  dsimp only at hi hL
  simp (disch := omega) only [go_sem]
  first | refine iteW_dec (fun hq => ?_) (fun hq => ?_) | refine iteW_of (fun hq => ?_) (fun hq => ?_)
  · have hi' : i < ws.length := by omega
    have htk : (ws.take (i + 1)).map (·.1) = (ws.take i).map (·.1) ++ [textW ws i] := by
      rw [take_succ ([], 0) hi', List.map_append]; rfl
    simp (disch := omega) only [go_sem]
    refine SRun.allocR ?_
    intro b5 hb5
    have hL := hL.mono (le_upd (cs := [.str (textW ws i), .int .i64 (placeW ws i)]) hb5)
    simp (disch := omega) only [upd_same, upd_upd, hlen2, go_sem]
    generalize upd s b5 [.str (textW ws i), .int .i64 (placeW ws i)] = s2 at *
    refine SRun.appAt (ys := [.str (textW ws i)]) hL.1 (by exact src_isl) rfl (by intro y hy; rw [List.mem_singleton.1 hy]; exact ⟨rfl, by simp [V.cells, V.one]⟩) (by rw [strsV_len, List.length_map, List.length_take]; simp only [List.length_singleton]; omega) ?_
    intro q' s' hA
    rw [strsV_app, ← htk] at hA
    simp (disch := omega) only [go_sem]
    exact ih (i + 1, q', s') _ _ ⟨by simp only; omega, hL.app hA⟩ (by simp only; omega) (by simp (disch := omega) only [subT, Int.natCast_add, Int.cast_ofNat_Int, go_sem] <;> (repeat' apply And.intro) <;> first | rfl | (congr 1; omega) | assumption) rfl
  · obtain rfl : i = ws.length := by omega
    rw [List.take_length] at *
    simp (disch := omega) only [go_sem]
    exact W_retC c37_ok rfl hL.conv ⟨rfl, rfl⟩
theorem l00Words_ok {t : List UInt8} (hl : t.length ≤ 1000000) : Ret Tryz.prog Γ 29 [.str t] σ (.isl false 1 (strsV (wordsT t []))) σ := by
  have hWl := wordsT_len t []
  generalize hAll : wordsT t [] = All at *
  refine ret_of c29_ok rfl ?_
  simp (disch := omega) only [c29, List.replicate_zero, go_sem]
  refine W_loopC (α := Nat × Nat × List (List UInt8) × V × St) (fun a => (a.2.1 ≤ a.1 ∧ LisAt σ 1 (strsV a.2.2.1) a.2.2.2.1 a.2.2.2.2) ∧ ((a.1 ≤ t.length ∧ a.2.2.1 ++ wordsT (t.drop a.1) ((t.drop a.2.1).take (a.1 - a.2.1)) = All) ∨ (a.1 = t.length + 1 ∧ a.2.2.1 = All))) (fun a => [(0, .str t), (3, a.2.2.2.1), (4, .int .i64 (a.2.1 : Nat)), (5, .int .i64 (a.1 : Nat))]) (fun a => a.2.2.2.2) (fun a => t.length + 1 - a.1) (0, 0, [], .isl true 1 [], σ) ⟨⟨by simp, ⟨fun x hx => (by simp [strsV] at hx), .inl ⟨by simp [strsV], 1, rfl⟩⟩, fun b hb => (by cases hb), fun _ _ h => h⟩, .inl ⟨by simp, by simpa using hAll⟩⟩ (by simp (disch := omega) only [subT, Int.natCast_add, Int.cast_ofNat_Int, List.replicate_zero, go_sem] <;> (repeat' apply And.intro) <;> first | rfl | (congr 1; omega) | assumption) rfl ?_
  rintro ⟨i, a, acc, q, s⟩ ⟨⟨hai, hL⟩, hI⟩ ih
  dsimp only at hai hL hI
  simp (disch := omega) only [go_sem]
  rcases hI with ⟨hi, hw⟩ | ⟨hi, rfl⟩
  case' inr =>
    have d0 : decide ((i : Int) ≤ (t.length : Int)) = false := decide_eq_false (by omega)
    simp (disch := omega) only [d0, go_sem]
    exact W_retC c29_ok rfl hL.conv ⟨rfl, rfl⟩
  have d0 : decide ((i : Int) ≤ (t.length : Int)) = true := decide_eq_true (by omega)
  have hcl : ((t.drop a).take (i - a)).length = i - a := by simp; omega
  have hal : acc.length ≤ All.length := by have := congrArg List.length hw; rw [List.length_append] at this; omega
  have hst : ∀ x : List UInt8, ∀ y ∈ [V.str x], y.cells.length = 1 ∧ ∀ c ∈ y.cells, c.one = true := fun x y hy => by rw [List.mem_singleton.1 hy]; exact ⟨rfl, by simp [V.cells, V.one]⟩
  have htn : ((i : Int) - (a : Int)).toNat = i - a := by omega
  by_cases he : i = t.length
  case' pos =>
    have d1 : decide ((i : Int) = (t.length : Int)) = true := decide_eq_true (by omega)
    have hn : t.drop i = [] := List.drop_eq_nil_of_le (by omega)
    rw [hn] at hw
    simp only [wordsT] at hw
    have next : ∀ T q' s' acc', subT [(0, .str t), (3, q'), (4, .int .i64 ((i + 1 : Nat) : Int)), (5, .int .i64 ((i + 1 : Nat) : Int))] T → LisAt σ 1 (strsV acc') q' s' → acc' = acc ++ (if (t.drop a).take (i - a) = [] then [] else [(t.drop a).take (i - a)]) → W Tryz.prog Γ 29 (c29).n _ _ T s' := fun T q' s' acc' hT h1 h2 => ih (i + 1, i + 1, acc', q', s') T _ ⟨⟨by simp, h1⟩, .inr ⟨by simp only; omega, by simp only; rw [h2, hw]⟩⟩ (by simp only; omega) hT rfl
    simp (disch := omega) only [d0, d1, go_sem]
  case' neg =>
    have hi' : i < t.length := by omega
    have d1 : decide ((i : Int) = (t.length : Int)) = false := decide_eq_false (by omega)
    rw [drop_cons0 hi'] at hw
    simp only [wordsT] at hw
    generalize hc : t.getD i 0 = c at *
    have hc' : t.getD i default = c := hc
    by_cases h32 : c = 32
    case' neg =>
      have dc : decide ((c.toNat : Int) = 32) = false := decide_eq_false (fun h => h32 (UInt8.toNat_inj.1 (by show c.toNat = 32; omega)))
      rw [if_neg h32, ← hc, cur_snoc hai hi'] at hw
      simp (disch := omega) only [d0, d1, hc, hc', dc, go_sem]
      exact ih (i + 1, a, acc, q, s) _ _ ⟨⟨by simp only; omega, hL⟩, .inl ⟨by simp only; omega, hw⟩⟩ (by simp only; omega) (by simp (disch := omega) only [subT, Int.natCast_add, Int.cast_ofNat_Int, go_sem] <;> (repeat' apply And.intro) <;> first | rfl | (congr 1; omega) | assumption) rfl
    case' pos =>
      have dc : decide ((c.toNat : Int) = 32) = true := decide_eq_true (by rw [h32]; rfl)
      rw [if_pos h32, ← List.append_assoc] at hw
      have next : ∀ T q' s' acc', subT [(0, .str t), (3, q'), (4, .int .i64 ((i + 1 : Nat) : Int)), (5, .int .i64 ((i + 1 : Nat) : Int))] T → LisAt σ 1 (strsV acc') q' s' → acc' = acc ++ (if (t.drop a).take (i - a) = [] then [] else [(t.drop a).take (i - a)]) → W Tryz.prog Γ 29 (c29).n _ _ T s' := fun T q' s' acc' hT h1 h2 => ih (i + 1, i + 1, acc', q', s') T _ ⟨⟨by simp, h1⟩, .inl ⟨by simp only; omega, by simp only; rw [h2, Nat.sub_self, List.take_zero]; exact hw⟩⟩ (by simp only; omega) hT rfl
      simp (disch := omega) only [d0, d1, hc, hc', dc, go_sem]
  all_goals
    by_cases hg : a < i
    · have d2 : decide ((i : Int) > (a : Int)) = true := decide_eq_true (by omega)
      have hne := cur_ne hg (by omega : i ≤ t.length)
      rw [if_neg hne] at next
      simp (disch := omega) only [d2, htn, go_sem]
      refine SRun.appAt (ys := [.str ((t.drop a).take (i - a))]) hL.1 (by exact src_isl) rfl (hst _) (by rw [strsV_len]; simp only [List.length_singleton]; omega) ?_
      intro q' s' hA
      rw [strsV_app] at hA
      simp (disch := omega) only [go_sem]
      exact next _ q' s' _ (by simp (disch := omega) only [subT, Int.natCast_add, Int.cast_ofNat_Int, go_sem] <;> (repeat' apply And.intro) <;> first | rfl | (congr 1; omega) | assumption) (hL.app hA) rfl
    · have d2 : decide ((i : Int) > (a : Int)) = false := decide_eq_false (by omega)
      have hne : (t.drop a).take (i - a) = [] := by rw [show i - a = 0 by omega, List.take_zero]
      rw [if_pos hne] at next
      have hia : a = i := by omega
      simp (disch := omega) only [d2, go_sem]
      exact next _ q s _ (by simp (disch := omega) only [subT, Int.natCast_add, Int.cast_ofNat_Int, go_sem] <;> (repeat' apply And.intro) <;> first | rfl | (congr 1; omega) | assumption) hL (by simp)
end Go.Proofs.YtjibkkhgejcjeaaGreatDoor.Lg
