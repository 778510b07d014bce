/- Networks drawn. -/
import Derived.Test.YtabelcohkpmpnaaWh
import Derived.Test.YtabelcohkpmpnaaRd
set_option linter.unusedSimpArgs false
set_option linter.unusedVariables false
namespace Go.Proofs.Ytabelcohkpmpnaa.Lg
open Go
attribute [local irreducible] SRun DS DRun
variable {Γ : St} {σ σ0 : St}
section
variable {P : Program} {f : FuncId} {n : Nat} {Q : V → St → Prop} {k : List It} {T : Ts}
/-- One block is written, the rest is read, and new blocks may come. -/
theorem DRun.mixR1 {b : Nat} {c : List V} {t : DT} {segs : List DT} (hb : σ b = some c) (R : Ts → St → Prop) (hr : rdOK t = true) (h : DSW P Γ (del σ b) t T (upd emp b c) R) (hk : ∀ T s, R T s → WD P Γ f n Q k segs T (cup s (del σ b))) : DRun P Γ f n Q (t :: segs) k T σ := by
  with_unfolding_all exact ⟨upd emp b c, del σ b, (fun m => by
    by_cases e : m = b
    · subst e; exact .inr (del_same _ _)
    · exact .inl (by rw [upd_ne _ _ e]; rfl)), (by
    funext m
    by_cases e : m = b
    · subst e; simp [cup, upd, hb]
    · simp [cup, upd, emp, del, e]), DS.mono (fun T s hR => (hk T s hR).sound) (DS.of hr h)⟩
theorem cup_del2 {b b2 : Nat} {c z : List V} (hne : b2 ≠ b) : cup (upd (upd emp b c) b2 z) (del σ b) = upd (upd σ b c) b2 z := by
  funext m
  by_cases e2 : m = b2
  · subst e2; simp [cup, upd]
  · by_cases e : m = b
    · subst e; simp [cup, upd, e2]
    · simp [cup, upd, emp, del, e, e2]
theorem W_freezeInL {T' : Ts} {σ' : St} {c : C} (hin : frzIn σ σ') (hT : frzT σ σ' T' T) (h : W P Γ f n Q (.code (.loop c) :: k) T' σ') : W P Γ f n Q (.code (.loop c) :: k) T σ := by
  rw [W_loop] at *; exact SRun.freezeIn hin hT h
end
theorem l06Insert_ok {ex : Bool} {xs : List Int} {x : Int} (hl : xs.length ≤ 1000000000) : Ret Try.prog Γ 110 [.isl ex 1 (ints xs), .int .i64 x] σ (.tup [.isl false 1 (ints (insP xs x)), .bool (insO xs x)]) σ := by
  have hkl := insK_le xs x
  refine ret_of c110_ok rfl ?_
  simp (disch := omega) only [c110, go_sem, ↓if_pos, ne_eq, ↓reduceIte]
  refine W_loopC (α := Nat) (fun i => i ≤ insK xs x) (fun i => [(0, .isl ex 1 (ints xs)), (1, .int .i64 x), (6, .int .i64 (i : Nat))]) (fun _ => σ) (fun i => insK xs x - i) 0 (by omega) (by simp (disch := omega) only [subT, Int.natCast_add, Int.cast_ofNat_Int, go_sem, ↓if_pos, ne_eq, ↓reduceIte] <;> (repeat' apply And.intro) <;> first | rfl | (congr 1; omega) | assumption) rfl ?_
  intro i hi ih
  simp (disch := omega) only [go_sem, ↓if_pos, ne_eq, ↓reduceIte]
  have step : ∀ (b : Bool), True := fun _ => trivial
  clear step
  by_cases h1 : i < insK xs x
  · have hb := insK_before h1
    have d1 : decide ((i : Int) < xs.length) = true := decide_eq_true (by omega)
    simp (disch := omega) only [d1, go_sem, ↓if_pos, ne_eq, ↓reduceIte]
    have d2 : decide (xs.getD i 0 < x) = true := decide_eq_true hb
    simp (disch := omega) only [d2, go_sem, ↓if_pos, ne_eq, ↓reduceIte]
    exact ih (i + 1) _ _ (by omega) (by omega) (by simp (disch := omega) only [subT, Int.natCast_add, Int.cast_ofNat_Int, go_sem, ↓if_pos, ne_eq, ↓reduceIte] <;> (repeat' apply And.intro) <;> first | rfl | (congr 1; omega) | assumption) rfl
  · have hik : i = insK xs x := by omega
    subst hik
    clear ih
    have hst := insK_stop (xs := xs) (n := x)
    have ho : insO xs x = !(decide (insK xs x < xs.length) && decide (xs.getD (insK xs x) 0 = x)) := rfl
    have hp : insP xs x = if insO xs x then xs.take (insK xs x) ++ [x] ++ xs.drop (insK xs x) else xs := rfl
    generalize insK xs x = i at *
    by_cases c1 : i < xs.length ∧ xs.getD i 0 = x
    · have d1 : decide ((i : Int) < xs.length) = true := decide_eq_true (by omega)
      have d2 : decide (xs.getD i 0 < x) = false := decide_eq_false (by omega)
      have d3 : decide (xs.getD i 0 = x) = true := decide_eq_true c1.2
      rw [decide_eq_true c1.1, d3] at ho
      rw [ho] at hp
      have hp2 : insP xs x = xs := hp
      rw [hp2, ho]
      simp (disch := omega) only [d1, d2, d3, go_sem, ↓if_pos, ne_eq, ↓reduceIte]
      exact W_retC c110_ok (r := .tup [.isl ex 1 (ints xs), .bool false]) rfl ⟨fun _ _ h => h, frz_tup (by exact ⟨.isl _ _ _, .refl _, trivial⟩)⟩ ⟨rfl, rfl⟩
    · have ho2 : insO xs x = true := by
        rw [ho]
        by_cases c2 : i < xs.length
        · rw [decide_eq_false (fun h => c1 ⟨c2, h⟩)]; simp
        · rw [decide_eq_false c2]; rfl
      rw [ho2, if_pos rfl] at hp
      rw [hp, ho2]
      by_cases c2 : i < xs.length
      case' pos =>
        have d1 : decide ((i : Int) < xs.length) = true := decide_eq_true (by omega)
        have d2 : decide (xs.getD i 0 < x) = false := decide_eq_false (by have := hst c2; omega)
        have d3 : decide (xs.getD i 0 = x) = false := decide_eq_false (fun h => c1 ⟨c2, h⟩)
        simp (disch := omega) only [d1, d2, d3, go_sem, ↓if_pos, ne_eq, ↓reduceIte]
      case' neg =>
        have d1 : decide ((i : Int) < xs.length) = false := decide_eq_false (by omega)
        simp (disch := omega) only [d1, go_sem, ↓if_pos, ne_eq, ↓reduceIte]
      all_goals
        rw [W_draw]
        have t1 : List.take ((i : Int) - 0).toNat (ints xs) = ints (xs.take i) := by rw [show ((i : Int) - 0).toNat = i by omega]; simp [ints, List.map_take]
        have t2 : List.take ((xs.length : Int) - i).toNat (List.drop i (ints xs)) = ints (xs.drop i) := by rw [List.take_of_length_le (by rw [List.length_drop, ints_len]; omega)]; simp [ints, List.map_drop]
        refine DRun.start (DRun.mixN rfl ?_)
        simp (disch := omega) only [go_sem, ↓if_pos, ne_eq, ↓reduceIte]
        refine DS.wrQ (WrF.appL (OwnL.nil (σ0 := emp) 1 1) (congrArg (V.isl _ 1) t1) (ints_ok (xs.take i)) (by simp only [ints_len, List.length_nil, List.length_take]; omega)) rfl ?_
        intro r1 s1' hr1 _
        have hr1' := OwnL.of_app (OwnL.nil (σ0 := emp) 1 1) (ints_ok (xs.take i)) hr1
        rw [List.nil_append] at hr1'
        simp (disch := omega) only [go_sem, ↓if_pos, ne_eq, ↓reduceIte]
        refine DS.wrQ (WrF.appL hr1' rfl (ints1_ok x) (by simp only [ints_len, List.length_take, List.length_singleton]; omega)) rfl ?_
        intro r2 s2' hr2 hdj
        have hr2' := OwnL.of_app hr1' (ints1_ok x) hr2
        rw [ints_app] at hr2'
        have hr3 := ownL_join hr2' hdj
        simp (disch := omega) only [go_sem, ↓if_pos, ne_eq, ↓reduceIte]
        refine DRun.appL hr3 (congrArg (V.isl _ 1) t2) (ints_ok (xs.drop i)) (by simp only [ints_len, List.length_append, List.length_take, List.length_singleton, List.length_drop]; omega) ?_
        intro r3 s3 hr4
        have he : ints (xs.take i ++ [x]) ++ ints (xs.drop i) = ints (xs.take i ++ [x] ++ xs.drop i) := by simp [ints]
        rw [he] at hr4
        simp (disch := omega) only [go_sem, ↓if_pos, ne_eq, ↓reduceIte]
        exact W_retC c110_ok (r := .tup [r3, .bool true]) (r' := .tup [.isl false 1 (ints (xs.take i ++ [x] ++ xs.drop i)), .bool true]) rfl ⟨hr4.le, frz_tup (by exact ⟨hr4.conv.2, .refl _, trivial⟩)⟩ ⟨rfl, rfl⟩
end Go.Proofs.Ytabelcohkpmpnaa.Lg
