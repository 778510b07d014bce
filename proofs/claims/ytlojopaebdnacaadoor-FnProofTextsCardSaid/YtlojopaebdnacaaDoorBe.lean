/- Words of lines by the reference, texts parted, lines that say something. -/
import Derived.Test.YtlojopaebdnacaaDoorBd
set_option linter.unusedSimpArgs false
set_option linter.unusedVariables false
namespace Go.Proofs.YtlojopaebdnacaaDoor.Lg
open Go Go.Lib
attribute [local irreducible] SRun DS DRun
variable {Γ : St} {σ σ0 : St}
theorem blF_index : (fun c => decide (0 ≤ indexByte [32, 9, 13] c)) = blF := by
  funext c
  have : (0 ≤ indexByte [32, 9, 13] c) ↔ c = 32 ∨ c = 9 ∨ c = 13 := by rw [indexByte_pos]; simp
  simp only [this, blF]
  by_cases h1 : c = 32 <;> by_cases h2 : c = 9 <;> by_cases h3 : c = 13 <;> simp [h1, h2, h3]
theorem u8_eq (c : UInt8) (n : Nat) (hn : n < 256) : ((c.toNat : Int) = (n : Int)) ↔ c = UInt8.ofNat n := by
  constructor
  · intro h
    apply UInt8.toNat_inj.1
    rw [UInt8.toNat_ofNat']; omega
  · intro h; subst h; rw [UInt8.toNat_ofNat']; omega
/-- A byte is blank, or it is none of the three. -/
theorem blF_cases (c : UInt8) : (blF c = true ∧ ((c.toNat : Int) = 32 ∨ (¬ (c.toNat : Int) = 32 ∧ (c.toNat : Int) = 9) ∨ (¬ (c.toNat : Int) = 32 ∧ ¬ (c.toNat : Int) = 9 ∧ (c.toNat : Int) = 13))) ∨ (blF c = false ∧ ¬ (c.toNat : Int) = 32 ∧ ¬ (c.toNat : Int) = 9 ∧ ¬ (c.toNat : Int) = 13) := by
  have e1 : ((c.toNat : Int) = 32) ↔ c = 32 := u8_eq c 32 (by omega)
  have e2 : ((c.toNat : Int) = 9) ↔ c = 9 := u8_eq c 9 (by omega)
  have e3 : ((c.toNat : Int) = 13) ↔ c = 13 := u8_eq c 13 (by omega)
  by_cases h1 : c = 32
  · left; exact ⟨by simp [blF, h1], .inl (e1.2 h1)⟩
  · by_cases h2 : c = 9
    · left; exact ⟨by simp [blF, h2], .inr (.inl ⟨fun h => h1 (e1.1 h), e2.2 h2⟩)⟩
    · by_cases h3 : c = 13
      · left; exact ⟨by simp [blF, h3], .inr (.inr ⟨fun h => h1 (e1.1 h), fun h => h2 (e2.1 h), e3.2 h3⟩)⟩
      · right; exact ⟨by simp [blF, h1, h2, h3], fun h => h1 (e1.1 h), fun h => h2 (e2.1 h), fun h => h3 (e3.1 h)⟩
set_option maxHeartbeats 1000000 in
theorem l01Words_ok {line : List UInt8} {p : Nat} (hl : line.length ≤ 1000000000) (hp : p ≤ 1000000000) : Ret Tryd.prog Γ 38 [.str line, .int .i64 (p : Int)] σ (.isl false 2 (wdsV (wordsP blF line p))) σ := by
  generalize hW : wordsP blF line p = Ws
  have hWl : Ws.length ≤ line.length + 1 := by rw [← hW]; exact wordsGo_len _ _ _
  unfold wordsP at hW
  have go : ∀ (r : V) (s : St), OwnL σ 2 (wdsV []) r s → W Tryd.prog Γ 38 (c38).n (fun x s => x = .isl false 2 (wdsV Ws) ∧ s = σ) [.code (c38).body] (argsT 0 [.str line, .int .i64 (p : Int)]) σ := fun _ _ _ => by
    simp (disch := omega) only [c38, go_sem]
    refine W_loopC (α := Nat × List Wd × V × St) (fun a => a.1 ≤ line.length ∧ OwnL σ 2 (wdsV a.2.1) a.2.2.1 a.2.2.2 ∧ a.2.1 ++ wordsGo blF (line.drop a.1) (p + a.1) [] = Ws) (fun a => [(0, .str line), (1, .int .i64 (p : Int)), (5, a.2.2.1), (6, .int .i64 (a.1 : Nat))]) (fun a => a.2.2.2) (fun a => line.length - a.1) (0, [], .isl true 2 [], σ) ⟨by simp, OwnL.nil _ 2, by simpa using hW⟩ (by simp (disch := omega) only [subT, Int.natCast_add, Int.cast_ofNat_Int, List.replicate_zero, go_sem] <;> (repeat' apply And.intro) <;> first | rfl | (congr 1; omega) | assumption) rfl ?_
    rintro ⟨i, acc, r, s⟩ ⟨hi, ho, hw⟩ ih
    dsimp only at hi ho hw
    simp (disch := omega) only [go_sem]
    first | refine iteW_dec (fun h1 => ?_) (fun h1 => ?_) | refine iteW_of (fun h1 => ?_) (fun h1 => ?_)
    · have hi' : i < line.length := by omega
      rw [drop_cons0 hi'] at hw
      simp only [wordsGo] at hw
      generalize hc : line.getD i 0 = c at *
      have blank : blF c = true → acc ++ wordsGo blF (line.drop (i + 1)) (p + (i + 1)) [] = Ws := fun h => by
        rw [if_pos h] at hw; simpa [flushW, Nat.add_assoc] using hw
      rcases blF_cases c with ⟨hb, h | ⟨g1, h⟩ | ⟨g1, g2, h⟩⟩ | ⟨hb, g1, g2, g3⟩
      · have d1 : decide ((c.toNat : Int) = 32) = true := decide_eq_true h
        simp (disch := omega) only [hc, d1, go_sem]
        exact ih (i + 1, acc, r, s) _ _ ⟨by simp only; omega, ho, blank hb⟩ (by simp only; omega) (by simp (disch := omega) only [subT, Int.natCast_add, Int.cast_ofNat_Int, go_sem] <;> (repeat' apply And.intro) <;> first | rfl | (congr 1; omega) | assumption) rfl
      · have d1 : decide ((c.toNat : Int) = 32) = false := decide_eq_false g1
        have d2 : decide ((c.toNat : Int) = 9) = true := decide_eq_true h
        simp (disch := omega) only [hc, d1, d2, go_sem]
        exact ih (i + 1, acc, r, s) _ _ ⟨by simp only; omega, ho, blank hb⟩ (by simp only; omega) (by simp (disch := omega) only [subT, Int.natCast_add, Int.cast_ofNat_Int, go_sem] <;> (repeat' apply And.intro) <;> first | rfl | (congr 1; omega) | assumption) rfl
      · have d1 : decide ((c.toNat : Int) = 32) = false := decide_eq_false g1
        have d2 : decide ((c.toNat : Int) = 9) = false := decide_eq_false g2
        have d3 : decide ((c.toNat : Int) = 13) = true := decide_eq_true h
        simp (disch := omega) only [hc, d1, d2, d3, go_sem]
        exact ih (i + 1, acc, r, s) _ _ ⟨by simp only; omega, ho, blank hb⟩ (by simp only; omega) (by simp (disch := omega) only [subT, Int.natCast_add, Int.cast_ofNat_Int, go_sem] <;> (repeat' apply And.intro) <;> first | rfl | (congr 1; omega) | assumption) rfl
      · have d1 : decide ((c.toNat : Int) = 32) = false := decide_eq_false g1
        have d2 : decide ((c.toNat : Int) = 9) = false := decide_eq_false g2
        have d3 : decide ((c.toNat : Int) = 13) = false := decide_eq_false g3
        have hbc : ¬ blF c = true := by rw [hb]; simp
        simp (disch := omega) only [hc, d1, d2, d3, go_sem]
        rw [if_neg hbc] at hw
        refine W_loopC (α := Nat) (fun j => i ≤ j ∧ j ≤ line.length ∧ acc ++ wordsGo blF (line.drop j) (p + j) ((line.drop i).take (j - i)) = Ws) (fun j => [(0, .str line), (1, .int .i64 (p : Int)), (5, r), (6, .int .i64 (i : Nat)), (7, .int .i64 (j : Nat))]) (fun _ => s) (fun j => line.length - j) i ⟨by omega, by omega, by rw [Nat.sub_self, List.take_zero, drop_cons0 hi', hc]; simp only [wordsGo]; rw [if_neg hbc]; exact hw⟩ (by simp (disch := omega) only [subT, Int.natCast_add, Int.cast_ofNat_Int, go_sem] <;> (repeat' apply And.intro) <;> first | rfl | (congr 1; omega) | assumption) rfl ?_
        rintro j ⟨hij, hjl, hw2⟩ ih2
        have fin : (j < line.length → blF (line.getD j 0) = true) → i < j → acc ++ ((line.drop i).take (j - i), p + i) :: wordsGo blF (line.drop j) (p + j) [] = Ws := fun hstop hlt => by
          rw [← hw2]
          congr 1
          by_cases hj : j < line.length
          · rw [drop_cons0 hj]
            simp only [wordsGo]
            rw [if_pos (hstop hj), if_pos (hstop hj)]
            simp only [flushW, cur_ne hlt hjl, if_false, if_pos, List.nil_append, cur_len hij hjl]
            rw [show p + j - (j - i) = p + i by omega]; rfl
          · have : line.drop j = [] := List.drop_eq_nil_of_le (by omega)
            rw [this]
            simp only [wordsGo, flushW, cur_ne hlt hjl, if_false, if_pos, cur_len hij hjl]
            rw [show p + j - (j - i) = p + i by omega]
        have hjn : ((j : Int) - (i : Int)).toNat = j - i := by omega
        have hpi : (p : Int) + (i : Int) = ((p + i : Nat) : Int) := by omega
        have stop : (j < line.length → blF (line.getD j 0) = true) → i < j := fun hstop => by
          rcases Nat.lt_or_ge i j with h | h
          · exact h
          · obtain rfl : i = j := by omega
            have := hstop hi'
            rw [hc] at this
            exact absurd this hbc
        by_cases hj : j < line.length
        · have dj : decide ((j : Int) < line.length) = true := decide_eq_true (by omega)
          generalize hcj : line.getD j 0 = cj at *
          have out : blF cj = true → i < j ∧ acc ++ ((line.drop i).take (j - i), p + i) :: wordsGo blF (line.drop j) (p + j) [] = Ws := fun h => ⟨stop fun _ => h, fin (fun _ => h) (stop fun _ => h)⟩
          rcases blF_cases cj with ⟨hb2, h⟩ | ⟨hb2, q1, q2, q3⟩
          · obtain ⟨hlt, hf⟩ := out hb2
            rcases h with h | ⟨q1, h⟩ | ⟨q1, q2, h⟩
            case' inl =>
              have e1 : (decide ¬ ((cj.toNat : Int) = 32)) = false := decide_eq_false (fun g => g h)
              simp (disch := omega) only [hcj, dj, e1, go_sem]
            case' inr.inl =>
              have e1 : (decide ¬ ((cj.toNat : Int) = 32)) = true := decide_eq_true q1
              have e2 : (decide ¬ ((cj.toNat : Int) = 9)) = false := decide_eq_false (fun g => g h)
              simp (disch := omega) only [hcj, dj, e1, e2, go_sem]
            case' inr.inr =>
              have e1 : (decide ¬ ((cj.toNat : Int) = 32)) = true := decide_eq_true q1
              have e2 : (decide ¬ ((cj.toNat : Int) = 9)) = true := decide_eq_true q2
              have e3 : (decide ¬ ((cj.toNat : Int) = 13)) = false := decide_eq_false (fun g => g h)
              simp (disch := omega) only [hcj, dj, e1, e2, e3, go_sem]
            all_goals
              refine SRun.appL ho (ex := true) (ys := [wdV ((line.drop i).take (j - i), p + i)]) (by
                show V.isl true 2 [V.agg [V.str (List.take ((j : Int) - i).toNat (List.drop i line)), V.int IntKind.i64 ((p : Int) + i)]] = _
                rw [hjn, hpi]; rfl) (wds_ok [_]) (by rw [wdsV_len]; have := congrArg List.length hw2; rw [List.length_append] at this; simp; omega) ?_
              intro r7 s7 ho7
              rw [wds_app] at ho7
              simp (disch := omega) only [go_sem]
              exact ih (j, _, r7, s7) _ _ ⟨hjl, ho7, by simpa using hf⟩ (by simp only; omega) (by simp (disch := omega) only [subT, Int.natCast_add, Int.cast_ofNat_Int, go_sem] <;> (repeat' apply And.intro) <;> first | rfl | (congr 1; omega) | assumption) rfl
          · have e1 : (decide ¬ ((cj.toNat : Int) = 32)) = true := decide_eq_true q1
            have e2 : (decide ¬ ((cj.toNat : Int) = 9)) = true := decide_eq_true q2
            have e3 : (decide ¬ ((cj.toNat : Int) = 13)) = true := decide_eq_true q3
            simp (disch := omega) only [hcj, dj, e1, e2, e3, go_sem]
            refine ih2 (j + 1) _ _ ⟨by omega, by omega, ?_⟩ (by omega) (by simp (disch := omega) only [subT, Int.natCast_add, Int.cast_ofNat_Int, go_sem] <;> (repeat' apply And.intro) <;> first | rfl | (congr 1; omega) | assumption) rfl
            rw [drop_cons0 hj, hcj] at hw2
            simp only [wordsGo] at hw2
            rw [if_neg (by rw [hb2]; simp)] at hw2
            rw [← cur_snoc hij hj, hcj, ← Nat.add_assoc]; exact hw2
        · have dj : decide ((j : Int) < line.length) = false := decide_eq_false (by omega)
          have hst : j < line.length → blF (line.getD j 0) = true := fun h => absurd h hj
          have hlt := stop hst
          have hf := fin hst hlt
          simp (disch := omega) only [dj, go_sem]
          refine SRun.appL ho (ex := true) (ys := [wdV ((line.drop i).take (j - i), p + i)]) (by
            show V.isl true 2 [V.agg [V.str (List.take ((j : Int) - i).toNat (List.drop i line)), V.int IntKind.i64 ((p : Int) + i)]] = _
            rw [hjn, hpi]; rfl) (wds_ok [_]) (by rw [wdsV_len]; have := congrArg List.length hw2; rw [List.length_append] at this; simp; omega) ?_
          intro r7 s7 ho7
          rw [wds_app] at ho7
          simp (disch := omega) only [go_sem]
          exact ih (j, _, r7, s7) _ _ ⟨hjl, ho7, by simpa using hf⟩ (by simp only; omega) (by simp (disch := omega) only [subT, Int.natCast_add, Int.cast_ofNat_Int, go_sem] <;> (repeat' apply And.intro) <;> first | rfl | (congr 1; omega) | assumption) rfl
    · obtain rfl : i = line.length := by omega
      simp (disch := omega) only [go_sem]
      have e : acc = Ws := by
        rw [List.drop_length] at hw
        simpa [wordsGo, flushW] using hw
      subst e
      exact W_retC c38_ok rfl ho.conv ⟨rfl, rfl⟩
  exact ret_of c38_ok rfl (go _ _ (OwnL.nil 2 2))
def strsT (ls : List (List UInt8)) : List V := ls.map .str
theorem strsT_len (ls : List (List UInt8)) : (strsT ls).length = ls.length := by simp [strsT]
theorem strsT_ok (ls : List (List UInt8)) : ∀ y ∈ strsT ls, y.cells.length = 1 ∧ ∀ c ∈ y.cells, c.one = true := by
  intro y hy; obtain ⟨w, _, rfl⟩ := List.mem_map.1 hy; simp [V.cells, V.one]
theorem cutGo_len (b : UInt8) : ∀ (l cur : List UInt8), (cutGo b l cur).length ≤ l.length + 1 := by
  intro l
  induction l with
  | nil => intro cur; simp [cutGo]
  | cons c r ih =>
    intro cur
    simp only [cutGo]
    split
    · have := ih []; simp only [List.length_cons]; omega
    · have := ih (cur ++ [c]); simp only [List.length_cons]; omega
theorem l00Cut_ok {t : List UInt8} {b : UInt8} (hl : t.length ≤ 1000000000) : Ret Tryd.prog Γ 37 [.str t, .int .u8 (b.toNat : Int)] σ (.isl false 1 (strsT (cutP b t))) σ := by
  generalize hW : cutP b t = Ws
  have hWl : Ws.length ≤ t.length + 1 := by rw [← hW]; exact cutGo_len _ _ _
  unfold cutP at hW
  refine ret_of c37_ok rfl ?_
  simp (disch := omega) only [c37, List.replicate_zero, go_sem]
  refine W_loopC (α := Nat × Nat × List (List UInt8) × V × St) (fun a => a.1 ≤ a.2.1 ∧ a.2.1 ≤ t.length ∧ OwnL σ 1 (strsT a.2.2.1) a.2.2.2.1 a.2.2.2.2 ∧ a.2.2.1 ++ cutGo b (t.drop a.2.1) ((t.drop a.1).take (a.2.1 - a.1)) = Ws) (fun a => [(0, .str t), (1, .int .u8 (b.toNat : Int)), (5, a.2.2.2.1), (6, .int .i64 (a.1 : Nat)), (7, .int .i64 (a.2.1 : Nat))]) (fun a => a.2.2.2.2) (fun a => t.length - a.2.1) (0, 0, [], .isl true 1 [], σ) ⟨by simp, by simp, OwnL.nil _ 1, by simpa using hW⟩ (by simp (disch := omega) only [subT, Int.natCast_add, Int.cast_ofNat_Int, go_sem] <;> (repeat' apply And.intro) <;> first | rfl | (congr 1; omega) | assumption) rfl ?_
  rintro ⟨f, i, acc, r, s⟩ ⟨hf, hi, ho, hw⟩ ih
  dsimp only at hf hi ho hw
  have hin : ((i : Int) - (f : Int)).toNat = i - f := by omega
  have hal : acc.length ≤ t.length + 1 := by have := congrArg List.length hw; rw [List.length_append] at this; omega
  simp (disch := omega) only [go_sem]
  first | refine iteW_dec (fun h1 => ?_) (fun h1 => ?_) | refine iteW_of (fun h1 => ?_) (fun h1 => ?_)
  · have hi' : i < t.length := by omega
    rw [drop_cons0 hi'] at hw
    simp only [cutGo] at hw
    generalize hc : t.getD i 0 = c at *
    have ebc : ((c.toNat : Int) = (b.toNat : Int)) ↔ c = b := ⟨fun h => UInt8.toNat_inj.1 (by omega), fun h => by rw [h]⟩
    by_cases hb : c = b
    · have d1 : decide ((c.toNat : Int) = (b.toNat : Int)) = true := decide_eq_true (ebc.2 hb)
      rw [if_pos hb] at hw
      simp (disch := omega) only [hc, d1, go_sem]
      refine SRun.appL ho (ex := true) (ys := [V.str ((t.drop f).take (i - f))]) (by
        show V.isl true 1 [V.str (List.take ((i : Int) - f).toNat (List.drop f t))] = _
        rw [hin]) (strsT_ok [_]) (by rw [strsT_len]; simp; omega) ?_
      intro r7 s7 ho7
      have e7 : strsT acc ++ [V.str ((t.drop f).take (i - f))] = strsT (acc ++ [(t.drop f).take (i - f)]) := by simp [strsT]
      rw [e7] at ho7
      simp (disch := omega) only [go_sem]
      exact ih (i + 1, i + 1, _, r7, s7) _ _ ⟨by simp only; omega, by simp only; omega, ho7, by simpa using hw⟩ (by simp only; omega) (by simp (disch := omega) only [subT, Int.natCast_add, Int.cast_ofNat_Int, go_sem] <;> (repeat' apply And.intro) <;> first | rfl | (congr 1; omega) | assumption) rfl
    · have d1 : decide ((c.toNat : Int) = (b.toNat : Int)) = false := decide_eq_false (fun h => hb (ebc.1 h))
      rw [if_neg hb, ← hc, cur_snoc hf hi'] at hw
      simp (disch := omega) only [hc, d1, go_sem]
      exact ih (f, i + 1, acc, r, s) _ _ ⟨by simp only; omega, by simp only; omega, ho, hw⟩ (by simp only; omega) (by simp (disch := omega) only [subT, Int.natCast_add, Int.cast_ofNat_Int, go_sem] <;> (repeat' apply And.intro) <;> first | rfl | (congr 1; omega) | assumption) rfl
  · obtain rfl : i = t.length := by omega
    rw [List.drop_length] at hw
    simp only [cutGo] at hw
    simp (disch := omega) only [go_sem]
    refine SRun.appL ho (ex := true) (ys := [V.str ((t.drop f).take (t.length - f))]) (by
      show V.isl true 1 [V.str (List.take ((t.length : Int) - f).toNat (List.drop f t))] = _
      rw [hin]) (strsT_ok [_]) (by rw [strsT_len]; simp; omega) ?_
    intro r7 s7 ho7
    have e7 : strsT acc ++ [V.str ((t.drop f).take (t.length - f))] = strsT Ws := by rw [← hw]; simp [strsT]
    rw [e7] at ho7
    simp (disch := omega) only [go_sem]
    exact W_retC c37_ok rfl ho7.conv ⟨rfl, rfl⟩
end Go.Proofs.YtlojopaebdnacaaDoor.Lg
