/- Steps marked; the law of proofs read alike, over its code. -/
import Derived.Test.YtlojopaebdnacaaDoorBl
set_option linter.unusedSimpArgs false
set_option linter.unusedVariables false
namespace Go.Proofs.YtlojopaebdnacaaDoor.Lg
open Go Go.Lib
attribute [local irreducible] SRun DS DRun
variable {Γ : St} {σ σ0 : St}
theorem LLA.set {α : Type} {pre row : α → List V} {k es : Nat} {vs : List α} {q q1 : V} {qs : List V} {s t : St} (h : LLA σ0 k es pre row vs q qs s) {i : Nat} {a : α} (hi : i < vs.length) (hq : qs[i]? = some q1)
    (h1 : At t k (els pre (vs.set i a) qs) q) (h2 : At t es (row a) q1) (h3 : ∀ (j : Nat) (m : V), j ≠ i → qs[j]? = some m → ∀ b, blk m = some b → t b = s b) : LLA σ0 k es pre row (vs.set i a) q qs t := by
  refine ⟨h1, ⟨by rw [List.length_set]; exact h.rows.len, fun j x m hx hm => ?_, h.rows.new, h.rows.ap⟩, h.new, h.ap⟩
  by_cases e : j = i
  · subst e
    rw [hq] at hm; obtain rfl := Option.some.inj hm
    rw [List.getElem?_set_self hi] at hx; obtain rfl := Option.some.inj hx
    exact h2
  · rw [List.getElem?_set_ne (Ne.symm e)] at hx
    exact (h.rows.at_ j x m hx hm).to (h3 j m e hm)
theorem LLA.conv {α : Type} {pre row : α → List V} {k es : Nat} {vs : List α} {q : V} {qs : List V} {s : St} (hp : PreOK pre k) (h : LLA σ k es pre row vs q qs s) (hle : ∀ b c, σ b = some c → s b = some c) : Conv s q σ (.isl false k (elsF pre row es vs)) :=
  ⟨hle, h.frz hp h.new h.rows.new⟩
theorem LLA.lend {α : Type} {pre row : α → List V} {k es : Nat} {vs : List α} {q : V} {qs : List V} {s : St} (hp : PreOK pre k) (h : LLA σ0 k es pre row vs q qs s) : Frz s emp q (.isl false k (elsF pre row es vs)) := h.frz hp (fun _ _ => rfl) fun _ _ _ _ => rfl
theorem els_set {α : Type} {pre : α → List V} : ∀ {vs : List α} {qs : List V} {i : Nat} {a : α} {q1 : V}, qs[i]? = some q1 → els pre (vs.set i a) qs = (els pre vs qs).set i (elV (pre a) q1) := by
  intro vs
  induction vs with
  | nil => intro qs i a q1 h; simp [els]
  | cons x r ih =>
    intro qs i a q1 h
    cases qs with
    | nil => simp at h
    | cons y ys =>
      cases i with
      | zero => simp at h; subst h; simp [els]
      | succ i =>
        have := ih (qs := ys) (i := i) (a := a) (q1 := q1) (by simpa using h)
        simp only [els, List.set_cons_succ, List.zipWith_cons_cons] at this ⊢
        rw [this]
theorem els_mark {st : List (Bool × List Int)} {qs : List V} {sb : St} (h : RwAt σ0 sb 1 rowS st qs) {i : Nat} {q1 : V} (hi : i < st.length) (hq : qs[i]? = some q1) (a : Bool × List Int) : (flat (els preS st qs)).set (i * 2) (.bool a.1) = flat (els preS (st.set i a) qs) := by
  have hE := fun x hx => (els_ok preS_ok h x hx).1
  have hl : i < (els preS st qs).length := by rw [els_len h.len]; exact hi
  have hc := (h.cells (List.mem_of_getElem? hq)).1
  have ha : st[i]? = some st[i] := by simp [hi]
  have hat : (els preS st qs)[i]? = some (elV (preS st[i]) q1) := els_at ha hq
  have hself : (els preS st qs).set i (elV (preS st[i]) q1) = els preS st qs := by
    apply List.ext_getElem?
    intro j
    by_cases e : j = i
    · subst e; rw [List.getElem?_set_self hl, hat]
    · rw [List.getElem?_set_ne (Ne.symm e)]
  rw [els_set hq, flat_set hE i _ hl]
  have h0 := flat_set hE i (elV (preS st[i]) q1) hl
  rw [hself, elV_cells hc] at h0
  rw [elV_cells hc]
  have hlt : ((flat (els preS st qs)).take (i * 2)).length = i * 2 := by
    rw [List.length_take, flat_length hE, els_len h.len]; omega
  conv => lhs; rw [h0]
  rw [List.append_assoc, List.append_assoc, List.set_append_right _ _ (by rw [hlt]; exact Nat.le_refl _), hlt, Nat.sub_self, List.append_assoc]
  rfl
theorem els_row {st : List (Bool × List Int)} {qs : List V} {sb : St} (h : RwAt σ0 sb 1 rowS st qs) {i : Nat} {q1 : V} (hi : i < st.length) (hq : qs[i]? = some q1) : (flat (els preS st qs))[i * 2 + 1]? = some q1 := by
  have hE := fun x hx => (els_ok preS_ok h x hx).1
  have hc := (h.cells (List.mem_of_getElem? hq)).1
  rw [flat_cell hE (c := .undef) (els_at (pre := preS) (show st[i]? = some st[i] by simp [hi]) hq) (by omega), elV_cells hc]
  rfl
theorem mixS_len {k : Int} {st : List (Bool × List Int)} {i : Nat} (h : i ≤ st.length) : (mixS k st i).length = st.length := by
  simp [mixS, markS_len]; omega
theorem mixS_zero (k : Int) (st : List (Bool × List Int)) : mixS k st 0 = st := by simp [mixS]
theorem mixS_all (k : Int) (st : List (Bool × List Int)) : mixS k st st.length = markS k (st.map fun s => s.2.length) := by
  simp [mixS, List.take_of_length_le, markS_len]
theorem mixS_at {k : Int} {st : List (Bool × List Int)} {i : Nat} (h : i < st.length) : (mixS k st i)[i]? = some (st.getD i (false, [])) := by
  unfold mixS
  rw [List.getElem?_append_right (by simp [markS_len]; omega)]
  simp [markS_len, List.getD, h, Nat.min_eq_left (Nat.le_of_lt h)]
theorem mixS_set {k : Int} {st : List (Bool × List Int)} {i : Nat} (h : i < st.length) : (mixS k st i).set i ((markS k (st.map fun s => s.2.length)).getD i (false, [])) = mixS k st (i + 1) := by
  have hm : (markS k (st.map fun s => s.2.length)).length = st.length := by simp [markS_len]
  unfold mixS
  have hlt : ((markS k (st.map fun s => s.2.length)).take i).length = i := by rw [List.length_take, hm]; omega
  rw [List.set_append_right _ _ (by omega), hlt, Nat.sub_self, drop_cons (false, []) h, List.set_cons_zero, take_succ (false, []) (by omega)]
  simp
set_option maxHeartbeats 1000000 in
theorem markStepS_at {st : List (Bool × List Int)} {q : V} {qs : List V} {k : Int} (hA : LLA σ0 2 1 preS rowS st q qs σ) (hl : st.length ≤ 1000) (hn : ∀ x ∈ st, x.2.length ≤ 1000) (hk : 0 ≤ k) (he : endS k (st.map fun s => s.2.length) ≤ 100000000) :
    ACalls Tryd.prog Γ 24 [q, .int .i64 k] σ fun r s => r = .int .i64 (endS k (st.map fun s => s.2.length)) ∧ LLA σ0 2 1 preS rowS (markS k (st.map fun s => s.2.length)) q qs s ∧ ∀ b, blk q ≠ some b → (∀ m ∈ qs, blk m ≠ some b) → s b = σ b := by
  have hln := hA.rows.len
  have hel : (els preS st qs).length = st.length := els_len hln
  rcases hA.at_.2 with ⟨h0, es', rfl⟩ | ⟨bq, cap, rfl, hbq⟩
  · have hx : st = [] := List.eq_nil_of_length_eq_zero (by rw [← hel, h0]; rfl)
    subst hx
    refine acalls_W c24_ok rfl ?_
    simp (disch := omega) only [c24, go_sem]
    refine W_loopC (α := Unit) (fun _ => True) (fun _ => [(0, .isl true es' []), (1, .int .i64 k), (5, .int .i64 0)]) (fun _ => σ) (fun _ => 0) () trivial (by simp (disch := omega) only [subT, Int.natCast_add, Int.cast_ofNat_Int, go_sem] <;> (repeat' apply And.intro) <;> first | rfl | (congr 1; omega) | assumption) rfl ?_
    intro _ _ _
    simp (disch := omega) only [List.length_nil, go_sem]
    exact W_retR c24_ok rfl ⟨by simp [look, endS], hA, fun _ _ _ => rfl⟩
  · rw [hel] at hA ⊢
    generalize hls : (st.map fun s => s.2.length) = ls at *
    have hll : ls.length = st.length := by rw [← hls]; simp
    refine acalls_W c24_ok rfl ?_
    simp (disch := omega) only [c24, go_sem]
    refine W_loopC (α := Nat × St) (fun p => p.1 ≤ st.length ∧ LLA σ0 2 1 preS rowS (mixS k st p.1) (.msl bq 2 0 st.length cap) qs p.2 ∧ ∀ b, b ≠ bq → (∀ m ∈ qs, blk m ≠ some b) → p.2 b = σ b) (fun p => [(0, .msl bq 2 0 st.length cap), (1, .int .i64 (endS k (ls.take p.1))), (5, .int .i64 (p.1 : Nat))]) (fun p => p.2) (fun p => st.length - p.1) (0, σ) ⟨by simp, by rw [mixS_zero]; exact hA, fun _ _ _ => rfl⟩ (by simp (disch := omega) only [subT, Int.natCast_add, Int.cast_ofNat_Int, List.take_zero, endS, go_sem] <;> (repeat' apply And.intro) <;> first | rfl | (congr 1; omega) | assumption) rfl ?_
    rintro ⟨i, s⟩ ⟨hi, hL, hfr⟩ ih
    dsimp only at hi hL hfr
    have hb := hL.at_.has (b := bq) rfl
    have hml := mixS_len (k := k) hi
    have hfl : (flat (els preS (mixS k st i) qs)).length = st.length * 2 := by
      rw [flat_length (fun x hx => (els_ok preS_ok hL.rows x hx).1), els_len hL.rows.len, hml]
    obtain ⟨t1, t2⟩ := endS_take (ls := ls) (k := k) i
    simp (disch := omega) only [go_sem]
    first | refine iteW_dec (fun h1 => ?_) (fun h1 => ?_) | refine iteW_of (fun h1 => ?_) (fun h1 => ?_)
    · have hi' : i < st.length := by omega
      obtain ⟨q1, hq1⟩ : ∃ q1, qs[i]? = some q1 := ⟨_, List.getElem?_eq_getElem (by omega)⟩
      have hat := markS_at ls k i (by omega)
      have hsu := endS_succ ls k i (by omega)
      obtain ⟨u1, u2⟩ := endS_take (ls := ls) (k := k) (i + 1)
      have hgl : ls.getD i 0 = (st.getD i (false, [])).2.length := by rw [← hls]; simp [List.getD, hi']
      have hmx := mixS_at (k := k) hi'
      have hrow := hL.rows.at_ i _ q1 hmx hq1
      have hni := hn _ (getD_mem (false, []) hi')
      have hset := mixS_set (k := k) hi'
      rw [hls, hat] at hset
      have hapq : Apt q1 (.msl bq 2 0 st.length cap) := hL.ap q1 (List.mem_of_getElem? hq1)
      have hmk := els_mark hL.rows (by rw [hml]; exact hi') hq1 (decide ((endS k (ls.take i)).tmod 3 = 0), (st.getD i (false, [])).2)
      have hL1 : LLA σ0 2 1 preS rowS ((mixS k st i).set i (decide ((endS k (ls.take i)).tmod 3 = 0), (st.getD i (false, [])).2)) (.msl bq 2 0 st.length cap) qs (upd s bq ((flat (els preS (mixS k st i) qs)).set (i * 2) (.bool (decide ((endS k (ls.take i)).tmod 3 = 0))))) := by
        refine hL.set (by rw [hml]; exact hi') hq1 ?_ (hrow.upd (fun e => hapq bq e rfl)) (fun j m _ hm b' hb' => upd_ne _ _ (fun e => by subst e; exact hL.ap m (List.mem_of_getElem? hm) _ hb' rfl))
        rw [hmk]
        refine ⟨els_ok preS_ok (sb := s) (σ0 := σ0) (es := 1) (row := rowS) ⟨by rw [List.length_set]; exact hL.rows.len, ?_, hL.rows.new, hL.rows.ap⟩, .inr ⟨bq, cap, by rw [els_len (by rw [List.length_set]; exact hL.rows.len), List.length_set, hml], upd_same _ _ _⟩⟩
        intro j a m ha hm
        by_cases e : j = i
        · subst e
          rw [hq1] at hm; obtain rfl := Option.some.inj hm
          rw [List.getElem?_set_self (by rw [hml]; exact hi')] at ha; obtain rfl := Option.some.inj ha
          exact hrow
        · rw [List.getElem?_set_ne (Ne.symm e)] at ha
          exact hL.rows.at_ j a m ha hm
      have hg := els_row hL1.rows (by rw [List.length_set, hml]; exact hi') hq1
      have hb1 := hL1.at_.has (b := bq) rfl
      have hrow1 := hL1.rows.at_ i _ q1 (List.getElem?_set_self (by rw [hml]; exact hi')) hq1
      generalize endS k (ls.take i) = p at *
      simp (disch := omega) only [hb, hfl, go_sem]
      generalize hs1 : upd s bq ((flat (els preS (mixS k st i) qs)).set (i * 2) (.bool (decide (p.tmod 3 = 0)))) = s1 at *
      simp only [hmk, hg]
      refine SRun.callQ (markIntS_at (k := p + 1) (xs := (st.getD i (false, [])).2) hrow1 (by omega) (by omega)) ⟨[], rfl, rfl⟩ rfl ?_
      rintro r s2 ⟨rfl, e2⟩
      simp (disch := omega) only [go_sem]
      refine ih (i + 1, s2) _ _ ⟨by simp only; omega, ?_, fun b hb hm => ?_⟩ (by simp only; omega) ?_ rfl
      · rw [← hset]
        have := hL1.set (a := (decide (p.tmod 3 = 0), upFrom (p + 1) (ls.getD i 0))) (t := s2) (by rw [List.length_set, hml]; exact hi') hq1 ?_ ?_ ?_
        · rwa [List.set_set] at this
        · rw [List.set_set, e2]
          have h5 : els preS ((mixS k st i).set i (decide (p.tmod 3 = 0), upFrom (p + 1) (ls.getD i 0))) qs = els preS ((mixS k st i).set i (decide (p.tmod 3 = 0), (st.getD i (false, [])).2)) qs := by rw [els_set hq1, els_set hq1]; rfl
          rw [h5]
          exact hL1.at_.to fun b hb => wrt_ne (fun e => hapq b e hb)
        · rw [e2]
          have := hrow1.wrt (ys := ints (upFrom (p + 1) (ls.getD i 0))) (by rw [ints_len, upFrom_len, hgl]; simp [rowS, ints_len]) (ints_ok _)
          rw [flat_ints] at this
          rw [hgl] at this ⊢
          exact this
        · intro j m hj hm b hb
          rw [e2]
          refine wrt_ne (fun e => ?_)
          rcases Nat.lt_or_gt_of_ne hj with h | h
          · exact hL1.rows.ap j i m q1 h hm hq1 b hb e
          · exact hL1.rows.ap i j q1 m h hq1 hm b e hb
      · dsimp only
        rw [e2, wrt_ne (hm q1 (List.mem_of_getElem? hq1)), ← hs1]
        exact (upd_ne _ _ hb).trans (hfr b hb hm)
      · simp only [hsu, hgl]
        exact (by simp (disch := omega) only [subT, Int.natCast_add, Int.cast_ofNat_Int, go_sem] <;> (repeat' apply And.intro) <;> first | rfl | (congr 1; omega) | assumption)
    · have hil : i = st.length := by omega
      subst hil
      rw [mixS_all, hls] at hL
      rw [List.take_of_length_le (by omega)]
      simp (disch := omega) only [go_sem]
      exact W_retR c24_ok rfl ⟨rfl, hL, fun b hb hm => hfr b (fun e => hb (by rw [e]; rfl)) hm⟩
end Go.Proofs.YtlojopaebdnacaaDoor.Lg
