/- The program's functions, one by one: rows that are joined, rows without a number, clauses that are RUP or RAT. -/
import Derived.Test.YtlojopaebdnacaaSc
set_option linter.unusedSimpArgs false
set_option linter.unusedVariables false
namespace Go.Proofs.Ytlojopaebdnacaa.Lg
open Go
attribute [local irreducible] SRun DS DRun
variable {Γ : St} {σ σ0 : St}
theorem growI1_ok {n : Int} (hn : 0 ≤ n ∧ n ≤ 1000000000) : ACalls Try.prog Γ 111 [.isl true 1 [], .int .i64 n] σ fun r σ' => Own0 σ 1 r σ' := by
  obtain ⟨m, rfl⟩ : ∃ m : Nat, n = m := ⟨n.toNat, by omega⟩
  refine acalls_W c111_ok rfl ?_
  simp (disch := omega) only [c111, go_sem]
  first | refine iteW_dec (fun h => ?_) (fun h => ?_) | refine iteW_of (fun h => ?_) (fun h => ?_)
  · simp (disch := omega) only [Int.sub_zero, go_sem]
    refine SRun.appz0 (n' := m) (es' := 1) rfl rfl (by omega) rfl (by omega) ?_
    intro b cap hb hcap
    have hne : ¬ ((cap : Int) = 0) := by omega
    simp (disch := omega) only [hne, Int.sub_zero, go_sem]
    exact W_retR c111_ok rfl (.inr ⟨b, cap, _, hb, rfl, rfl⟩)
  · simp (disch := omega) only [go_sem]
    exact W_retR c111_ok rfl (.inl ⟨rfl, _, rfl⟩)
theorem growI_ok {es' : Nat} {n : Int} (hn : 0 ≤ n ∧ n ≤ 1000000000) : ACalls Try.prog Γ 111 [.isl true es' [], .int .i64 n] σ fun r σ' => Own0 σ 1 r σ' :=
  ACalls.pre (args' := [.isl true 1 [], .int .i64 n]) (fun _ _ h => h) rfl (frzL_get (by exact ⟨.isl0 _ _ _ _ (fun h => h), .refl _, trivial⟩)) (growI1_ok hn)
/-- Rows joined. -/
theorem concatI_ok {ex : Bool} {ls : List (List Int)} (hl : ls.length ≤ 1000) (hs : ∀ c ∈ ls, c.length ≤ 1000) : Ret Try.prog Γ 72 [.isl ex 1 (clsV ls)] σ (intsV ls.flatten) σ := by
  have hbound : ∀ i, ((ls.take i).flatten).length ≤ i * 1000 := by
    intro i
    induction i with
    | zero => simp
    | succ i ih =>
      rcases Nat.lt_or_ge i ls.length with h | h
      · rw [take_succ [] h, List.flatten_append, List.length_append]
        have := hs _ (getD_mem [] h)
        simp only [List.flatten_cons, List.flatten_nil, List.append_nil]; omega
      · have e1 : ls.take (i + 1) = ls := List.take_of_length_le (by omega)
        have e2 : ls.take i = ls := List.take_of_length_le h
        rw [e2] at ih; rw [e1]; exact Nat.le_trans ih (Nat.mul_le_mul_right 1000 (Nat.le_succ i))
  have own : ACalls Try.prog Γ 72 [.isl ex 1 (clsV ls)] σ fun r σ' => OwnG σ 1 (ints ls.flatten) r σ' := by
    refine acalls_W c72_ok rfl ?_
    simp (disch := omega) only [c72, go_sem]
    refine W_loopC (fun i : Nat => i ≤ ls.length) (fun i => [(0, .isl ex 1 (clsV ls)), (3, .int .i64 ((ls.take i).flatten.length : Nat)), (9, .isl ex 1 (clsV ls)), (10, .int .i64 ls.length), (11, .int .i64 i)]) (fun _ => σ) (fun i => ls.length - i) 0 (by omega) (by simp (disch := omega) only [subT, Int.natCast_add, Int.cast_ofNat_Int, go_sem] <;> (repeat' apply And.intro) <;> first | rfl | (congr 1; omega) | assumption) rfl ?_
    intro i hi ih
    have hbi := hbound i
    simp (disch := omega) only [go_sem]
    first | refine iteW_dec (fun hq => ?_) (fun hq => ?_) | refine iteW_of (fun hq => ?_) (fun hq => ?_)
    · have hsi := hs _ (getD_mem [] (by omega : i < ls.length))
      have htk : (ls.take (i + 1)).flatten.length = (ls.take i).flatten.length + (ls.getD i []).length := by
        rw [take_succ [] (by omega), List.flatten_append, List.length_append]; simp
      simp (disch := omega) only [intsV, go_sem]
      refine ih (i + 1) _ _ (by omega) (by omega) (by simp (disch := omega) only [subT, Int.natCast_add, Int.cast_ofNat_Int, htk, go_sem] <;> (repeat' apply And.intro) <;> first | rfl | (congr 1; omega) | assumption) rfl
    · obtain rfl : i = ls.length := by omega
      rw [List.take_length] at hbi
      simp (disch := omega) only [List.take_length, go_sem]
      refine SRun.callQ (growI_ok (n := (ls.flatten.length : Nat)) (by omega)) ⟨[], rfl, rfl⟩ rfl ?_
      intro r σ1 ho
      simp (disch := omega) only [go_sem]
      refine W_loopC (fun p : Nat × V × St => p.1 ≤ ls.length ∧ OwnG σ 1 (ints (ls.take p.1).flatten) p.2.1 p.2.2) (fun p => [(6, p.2.1), (25, .isl ex 1 (clsV ls)), (26, .int .i64 ls.length), (27, .int .i64 p.1)]) (fun p => p.2.2) (fun p => ls.length - p.1) (0, r, σ1) ⟨by simp, .inl ⟨rfl, ho⟩⟩ (by simp (disch := omega) only [subT, Int.natCast_add, Int.cast_ofNat_Int, go_sem] <;> (repeat' apply And.intro) <;> first | rfl | (congr 1; omega) | assumption) rfl ?_
      rintro ⟨i, r6, σ2⟩ ⟨hi2, ho2⟩ ih2
      dsimp only at hi2 ho2 ⊢
      have hbi := hbound i
      simp (disch := omega) only [go_sem]
      first | refine iteW_dec (fun hq2 => ?_) (fun hq2 => ?_) | refine iteW_of (fun hq2 => ?_) (fun hq2 => ?_)
      · have hsi := hs _ (getD_mem [] (by omega : i < ls.length))
        simp (disch := omega) only [intsV, go_sem]
        refine SRun.appG ho2 rfl (ints_ok _) (by rw [ints_len, ints_len]; omega) ?_
        intro r3 σ3 ho3
        simp (disch := omega) only [go_sem]
        refine ih2 (i + 1, r3, σ3) _ _ ⟨by simp only; omega, .inr ?_⟩ (by simp only; omega) (by simp (disch := omega) only [subT, Int.natCast_add, Int.cast_ofNat_Int, go_sem] <;> (repeat' apply And.intro) <;> first | rfl | (congr 1; omega) | assumption) rfl
        have : ints (ls.take (i + 1)).flatten = ints (ls.take i).flatten ++ ints (ls.getD i []) := by
          rw [take_succ [] (by omega), List.flatten_append]; simp [ints]
        rw [this]; exact ho3
      · obtain rfl : i = ls.length := by omega
        rw [List.take_length] at ho2
        simp (disch := omega) only [go_sem]
        exact W_retR c72_ok rfl ho2
  exact own.conv fun r s ho => ⟨_, _, ho.conv, rfl, rfl⟩
/-- The first place of which it is true, in a row that is owned. -/
theorem indexFuncM_ok {xs : List Int} {b cap : Nat} {F : FuncId} {caps : List V} {p : Int → Bool} (hb : σ b = some (ints xs)) (hl : xs.length ≤ 1000000) (hp : ∀ x ∈ xs, Ret Try.prog Γ F (.int .i64 x :: caps) σ (.bool (p x)) σ) :
    Ret Try.prog Γ 126 [.msl b 1 0 xs.length cap, .fn F caps] σ (.int .i64 (match xs.findIdx? p with | some i => (i : Int) | none => -1)) σ := by
  refine ret_of c126_ok rfl ?_
  simp (disch := omega) only [c126, go_sem]
  refine W_loopC (fun i : Nat => i ≤ xs.length ∧ ∀ j, j < i → p (xs.getD j 0) = false) (fun i => [(0, .msl b 1 0 xs.length cap), (1, .fn F caps), (7, .int .i64 xs.length), (8, .int .i64 i)]) (fun _ => σ) (fun i => xs.length - i) 0 ⟨by omega, fun j hj => by omega⟩ (by simp (disch := omega) only [subT, Int.natCast_add, Int.cast_ofNat_Int, go_sem] <;> (repeat' apply And.intro) <;> first | rfl | (congr 1; omega) | assumption) rfl ?_
  rintro i ⟨hi, hno⟩ ih
  simp (disch := omega) only [go_sem]
  first | refine iteW_dec (fun hq => ?_) (fun hq => ?_) | refine iteW_of (fun hq => ?_) (fun hq => ?_)
  · have hget : (ints xs)[i]? = some (.int .i64 (xs.getD i 0)) := ints_get (getD_some 0 (by omega))
    simp (disch := omega) only [hb, hget, go_sem]
    refine SRun.callR (hp _ (getD_mem 0 (by omega))) ⟨caps, rfl, rfl⟩ rfl ?_
    simp (disch := omega) only [go_sem]
    first | refine iteW_dec (fun h1 => ?_) (fun h1 => ?_) | refine iteW_of (fun h1 => ?_) (fun h1 => ?_)
    · simp (disch := omega) only [go_sem]
      refine W_retR c126_ok rfl ⟨?_, rfl⟩
      have : xs.findIdx? p = some i := by
        rw [List.findIdx?_eq_some_iff_getElem]
        refine ⟨by omega, by simpa [List.getD, (by omega : i < xs.length)] using h1, fun j hj => ?_⟩
        have := hno j hj
        simpa [List.getD, (by omega : j < xs.length)] using this
      rw [this]; rfl
    · simp (disch := omega) only [go_sem]
      refine ih (i + 1) _ _ ⟨by omega, fun j hj => ?_⟩ (by omega) (by simp (disch := omega) only [subT, Int.natCast_add, Int.cast_ofNat_Int, go_sem] <;> (repeat' apply And.intro) <;> first | rfl | (congr 1; omega) | assumption) rfl
      by_cases hji : j = i
      · subst hji; exact h1
      · exact hno j (by omega)
  · simp (disch := omega) only [go_sem]
    refine W_retR c126_ok rfl ⟨?_, rfl⟩
    have : xs.findIdx? p = none := by
      rw [List.findIdx?_eq_none_iff]
      intro x hx
      obtain ⟨j, hj, rfl⟩ := List.getElem_of_mem hx
      have := hno j (by omega)
      simpa [List.getD, hj] using this
    rw [this]; rfl
theorem filter_take_none {xs : List Int} {p : Int → Bool} {i : Nat} (hi : i ≤ xs.length) (h : ∀ j, j < i → p (xs.getD j 0) = false) : (xs.take i).filter (fun x => !p x) = xs.take i := by
  rw [List.filter_eq_self]
  intro x hx
  obtain ⟨j, hj, rfl⟩ := List.getElem_of_mem hx
  simp only [List.length_take] at hj
  have := h j (by omega)
  simpa [List.getD, (by omega : j < xs.length)] using this
/-- A row that is owned, without what a function is true of. -/
theorem deleteFuncM_ok {xs : List Int} {b cap : Nat} {F : FuncId} {caps : List V} {p : Int → Bool} (hb : σ0 b = none) (hcap : xs.length ≤ cap) (hl : xs.length ≤ 1000000) (hp : ∀ x ys, Ret Try.prog Γ F (.int .i64 x :: caps) (upd σ0 b ys) (.bool (p x)) (upd σ0 b ys)) :
    Ret Try.prog Γ 112 [.msl b 1 0 xs.length cap, .fn F caps] (upd σ0 b (ints xs)) (intsV (xs.filter fun x => !p x)) σ0 := by
  have hil : (ints xs).length = xs.length := ints_len _
  have hfr : ∀ (m : Nat) (cs : List V) (ys : List Int), m ≤ cs.length → cs.take m = ints ys → m = ys.length → ∀ r, r = .msl b 1 0 m cap → Conv (upd σ0 b cs) r σ0 (intsV ys) := by
    rintro m cs ys h1 h2 h3 r rfl
    exact ⟨le_upd hb, Frz.row (upd_same _ _ _) hb h2 (by rw [ints_len]; exact h3.symm) (ints_one _)⟩
  refine ret_of c112_ok rfl ?_
  simp (disch := omega) only [c112, go_sem]
  refine SRun.callR (indexFuncM_ok (xs := xs) (p := p) (upd_same _ b _) hl (fun x _ => hp x _)) ⟨[], rfl, rfl⟩ rfl ?_
  simp (disch := omega) only [List.getD_cons_zero, List.getD_cons_succ, go_sem]
  cases hf : xs.findIdx? p with
  | none =>
    simp (disch := omega) only [go_sem]
    have hfil : xs.filter (fun x => !p x) = xs := by
      rw [List.filter_eq_self]
      rw [List.findIdx?_eq_none_iff] at hf
      intro x hx; simp [hf x hx]
    rw [hfil]
    exact W_retC c112_ok rfl (hfr xs.length _ xs (by omega) (List.take_of_length_le (by omega)) rfl _ rfl) ⟨rfl, rfl⟩
  | some i0 =>
    obtain ⟨hi0, hpi, hbef⟩ := List.findIdx?_eq_some_iff_getElem.1 hf
    have hbef' : ∀ j, j < i0 → p (xs.getD j 0) = false := fun j hj => by
      have := hbef j hj
      simpa [List.getD, (by omega : j < xs.length)] using this
    simp (disch := omega) only [go_sem]
    refine W_loopC (fun q : Nat × List Int × List V => q.1 ≤ xs.length ∧ i0 < q.1 ∧ q.2.1 = (xs.take q.1).filter (fun x => !p x) ∧ q.2.1.length < q.1 ∧ q.2.2.length = xs.length ∧ q.2.2.take q.2.1.length = ints q.2.1 ∧ q.2.2.drop q.1 = ints (xs.drop q.1)) (fun q => [(0, .msl b 1 0 xs.length cap), (1, .fn F caps), (5, .int .i64 q.2.1.length), (6, .int .i64 q.1)])
      (fun q => upd σ0 b q.2.2) (fun q => xs.length - q.1) (i0 + 1, xs.take i0, ints xs) ⟨by simp only; omega, by simp only; omega, ?_, by simp only [List.length_take]; omega, hil, by simp [ints], by simp [ints]⟩ ?_ rfl ?_
    · have hpi' : p (xs.getD i0 0) = true := by simpa [List.getD, hi0] using hpi
      simp only
      have he : [xs.getD i0 0].filter (fun x => !p x) = [] := by rw [List.filter_cons, hpi']; rfl
      rw [take_succ 0 hi0, List.filter_append, filter_take_none (by omega) hbef', he, List.append_nil]
    · have hmin : (xs.take i0).length = i0 := by simp; omega
      exact (by simp (disch := omega) only [subT, Int.natCast_add, Int.cast_ofNat_Int, hmin, go_sem] <;> (repeat' apply And.intro) <;> first | rfl | (congr 1; omega) | assumption)
    · rintro ⟨j, ys, cs⟩ ⟨hj, hij, hys, hlt, hcl, hct, hcd⟩ ih
      dsimp only at hj hij hys hlt hcl hct hcd ⊢
      simp (disch := omega) only [go_sem]
      first | refine iteW_dec (fun hq => ?_) (fun hq => ?_) | refine iteW_of (fun hq => ?_) (fun hq => ?_)
      · have hget : cs[j]? = some (.int .i64 (xs.getD j 0)) := by
          have h2 : (ints (xs.drop j))[0]? = some (.int .i64 (xs.getD j 0)) := by
            rw [drop_cons 0 (by omega : j < xs.length)]; rfl
          rw [← hcd, List.getElem?_drop] at h2; simpa using h2
        simp (disch := omega) only [hget, go_sem]
        refine SRun.callR (hp _ _) ⟨caps, rfl, rfl⟩ rfl ?_
        have hfs : (xs.take (j + 1)).filter (fun x => !p x) = ys ++ if p (xs.getD j 0) then [] else [xs.getD j 0] := by
          rw [take_succ 0 (by omega), List.filter_append, ← hys, List.filter_cons]
          cases p (xs.getD j 0) <;> rfl
        simp (disch := omega) only [go_sem]
        first | refine iteW_dec (fun h1 => ?_) (fun h1 => ?_) | refine iteW_of (fun h1 => ?_) (fun h1 => ?_)
        · have h1' : p (xs.getD j 0) = false := by simpa using h1
          rw [h1'] at hfs
          simp (disch := omega) only [hget, go_sem]
          refine ih (j + 1, ys ++ [xs.getD j 0], cs.set ys.length (.int .i64 (xs.getD j 0))) _ _ ⟨by simp only; omega, by simp only; omega, hfs.symm, by simp; omega, by simpa using hcl, ?_, ?_⟩ (by simp only; omega) (by simp (disch := omega) only [subT, Int.natCast_add, Int.cast_ofNat_Int, go_sem] <;> (repeat' apply And.intro) <;> first | rfl | (congr 1; omega) | assumption) rfl
          · have hlt2 : ys.length < cs.length := by omega
            rw [List.length_append, List.length_singleton, List.take_add_one, List.take_set_of_le (Nat.le_refl _), hct]
            simp [hlt2, ints]
          · rw [List.drop_set_of_lt (by omega)]
            have : cs.drop (j + 1) = (cs.drop j).drop 1 := by rw [List.drop_drop]
            rw [this, hcd]
            simp [ints, List.drop_drop]
        · have h1' : p (xs.getD j 0) = true := by simpa using h1
          rw [h1'] at hfs
          simp (disch := omega) only [go_sem]
          refine ih (j + 1, ys, cs) _ _ ⟨by simp only; omega, by simp only; omega, by simpa using hfs.symm, by simp only; omega, hcl, hct, ?_⟩ (by simp only; omega) (by simp (disch := omega) only [subT, Int.natCast_add, Int.cast_ofNat_Int, go_sem] <;> (repeat' apply And.intro) <;> first | rfl | (congr 1; omega) | assumption) rfl
          have : cs.drop (j + 1) = (cs.drop j).drop 1 := by rw [List.drop_drop]
          rw [this, hcd]
          simp [ints, List.drop_drop]
      · obtain rfl : j = xs.length := by omega
        rw [List.take_length] at hys
        have hne : ¬ ((cap : Int) = ys.length) := by omega
        have hto : ((xs.length : Int) - ys.length).toNat = xs.length - ys.length := by omega
        have hto2 : ((ys.length : Int) - 0).toNat = ys.length := by omega
        simp (disch := omega) only [hne, hto, go_sem]
        refine SRun.clearR (cs := cs) (by rfl) (upd_same _ _ _) (by omega) rfl ?_
        simp (disch := omega) only [hto2, go_sem]
        have hne0 : ¬ ((cap : Int) = 0) := by omega
        simp (disch := omega) only [hne0, hto2, go_sem]
        rw [← hys]
        refine W_retC c112_ok rfl (hfr ys.length _ ys ?_ ?_ rfl _ rfl) ⟨rfl, rfl⟩
        · simp only [List.length_append, List.length_take]; omega
        · rw [List.append_assoc, List.take_append_of_le_length (by simp; omega), List.take_take, Nat.min_self, hct]
theorem without1_ok {x y : Int} {b : Nat} (hb : σ b = some [.int .i64 x]) : Ret Try.prog Γ 113 [.int .i64 y, .ptr b 0] σ (.bool (decide (y = x))) σ := by
  refine ret_of c113_ok rfl ?_
  simp (disch := omega) only [c113, hb, go_sem]
  refine W_retR c113_ok rfl ⟨?_, rfl⟩
  rfl
/-- A row without a number. -/
theorem deleteFunc0_ok {F : FuncId} {caps : List V} : Ret Try.prog Γ 112 [.isl false 1 [], .fn F caps] σ (.isl false 1 []) σ := by
  refine ret_of c112_ok rfl ?_
  simp (disch := omega) only [c112, go_sem]
  refine SRun.callR (indexFuncI_ok (ex := false) (xs := []) (F := F) (caps := caps) (p := fun _ => false) (fun x hx => by cases hx) (by simp) (fun x hx => by cases hx)) ⟨[], rfl, rfl⟩ rfl ?_
  simp (disch := omega) only [List.getD_cons_zero, List.getD_cons_succ, go_sem]
  simp (disch := omega) only [List.findIdx?_nil, go_sem]
  refine W_retR c112_ok rfl ⟨?_, rfl⟩
  rfl
theorem without_ok {ex : Bool} {c : List Int} {x : Int} (hl : c.length ≤ 1000000) : Ret Try.prog Γ 73 [.isl ex 1 (ints c), .int .i64 x] σ (intsV (c.filter fun y => decide (¬ y = x))) σ := by
  refine ret_of c73_ok rfl ?_
  simp (disch := omega) only [c73, go_sem]
  refine SRun.boxR (by simp [ev, look, V.cells, V.one]) ?_
  intro b3 hb3
  simp (disch := omega) only [go_sem]
  refine SRun.callQ (cloneI_ok (cells := ints c) (.inl ⟨_, _, _, rfl⟩) (src_row (ints_one c)) (by rw [ints_len]; omega)) ⟨[], rfl, rfl⟩ rfl ?_
  intro r s ho
  simp (disch := omega) only [go_sem]
  rcases ho with ⟨hc, hl0, rfl, es', rfl⟩ | ⟨b, cap, hb, rfl, rfl, h4⟩
  · obtain rfl : c = [] := by
      have := congrArg List.length hc; simp [ints] at this; exact this
    refine SRun.callR (ACalls.pre (args := [.isl true es' [], .fn 113 [.ptr b3 0]]) (args' := [.isl false 1 [], .fn 113 [.ptr b3 0]]) (fun _ _ h => h) rfl (frzL_get (by exact ⟨frz_nil _ _, .refl _, trivial⟩)) (deleteFunc0_ok (F := 113) (caps := [.ptr b3 0]))) ⟨[], rfl, rfl⟩ rfl ?_
    simp (disch := omega) only [go_sem]
    exact W_retC c73_ok rfl (Conv.drop _ (le_upd hb3)) ⟨rfl, rfl⟩
  · rw [ints_len] at *
    have hn := upd_none.1 hb
    refine SRun.callR (deleteFuncM_ok (xs := c) (p := fun y => decide (y = x)) hb h4.2 hl (fun y ys => without1_ok (by rw [upd_ne _ _ (fun e => hn.1 e.symm), upd_same]))) ⟨[], rfl, rfl⟩ rfl ?_
    simp (disch := omega) only [List.getD_cons_zero, List.getD_cons_succ, go_sem]
    exact W_retC c73_ok rfl (Conv.drop _ (le_upd hb3)) ⟨rfl, rfl⟩
/-- The first place of a number, in a row that came in. -/
theorem indexIs_ok {ex : Bool} {xs : List Int} {y : Int} (hl : xs.length ≤ 1000000000) : Ret Try.prog Γ 106 [.isl ex 1 (ints xs), .int .i64 y] σ (.int .i64 (findZ xs y)) σ := by
  refine ret_of c106_ok rfl ?_
  simp (disch := omega) only [c106, go_sem]
  refine W_loopC (fun i : Nat => i ≤ xs.length ∧ ∀ j, j < i → xs.getD j 0 ≠ y) (fun i => [(0, .isl ex 1 (ints xs)), (1, .int .i64 y), (7, .int .i64 xs.length), (8, .int .i64 i)]) (fun _ => σ) (fun i => xs.length - i) 0 ⟨by omega, fun j hj => by omega⟩ (by simp (disch := omega) only [subT, Int.natCast_add, Int.cast_ofNat_Int, go_sem] <;> (repeat' apply And.intro) <;> first | rfl | (congr 1; omega) | assumption) rfl ?_
  rintro i ⟨hi, hno⟩ ih
  simp (disch := omega) only [go_sem]
  first | refine iteW_dec (fun hq => ?_) (fun hq => ?_) | refine iteW_of (fun hq => ?_) (fun hq => ?_)
  · simp (disch := omega) only [go_sem]
    first | refine iteW_dec (fun h1 => ?_) (fun h1 => ?_) | refine iteW_of (fun h1 => ?_) (fun h1 => ?_)
    · simp (disch := omega) only [go_sem]
      refine W_retR c106_ok rfl ⟨?_, rfl⟩
      have : xs.findIdx? (· == y) = some i := by
        rw [List.findIdx?_eq_some_iff_getElem]
        refine ⟨by omega, by simpa [List.getD, (by omega : i < xs.length)] using h1.symm, fun j hj => ?_⟩
        have := hno j hj
        simpa [List.getD, (by omega : j < xs.length)] using this
      simp only [findZ, this]; rfl
    · simp (disch := omega) only [go_sem]
      refine ih (i + 1) _ _ ⟨by omega, fun j hj => ?_⟩ (by omega) (by simp (disch := omega) only [subT, Int.natCast_add, Int.cast_ofNat_Int, go_sem] <;> (repeat' apply And.intro) <;> first | rfl | (congr 1; omega) | assumption) rfl
      by_cases hji : j = i
      · subst hji; exact fun e => h1 e.symm
      · exact hno j (by omega)
  · simp (disch := omega) only [go_sem]
    refine W_retR c106_ok rfl ⟨?_, rfl⟩
    have : xs.findIdx? (· == y) = none := by
      rw [List.findIdx?_eq_none_iff]
      intro x hx
      obtain ⟨j, hj, rfl⟩ := List.getElem_of_mem hx
      have := hno j (by omega)
      simpa [List.getD, hj] using this
    simp only [findZ, this]; rfl
theorem findZ_contains (xs : List Int) (y : Int) : decide (findZ xs y ≥ 0) = xs.contains y := by
  unfold findZ
  cases h : xs.findIdx? (· == y) with
  | some i =>
    obtain ⟨hi, hp, _⟩ := List.findIdx?_eq_some_iff_getElem.1 h
    have hm : y ∈ xs := by have := List.getElem_mem hi; rw [beq_iff_eq.1 hp] at this; exact this
    rw [List.contains_iff_mem.2 hm]
    exact decide_eq_true (by simp only; omega)
  | none =>
    rw [List.findIdx?_eq_none_iff] at h
    have hm : xs.contains y = false := by
      rw [Bool.eq_false_iff]; intro e
      have := h y (List.contains_iff_mem.1 e); simp at this
    rw [hm]; rfl
theorem containsI_ok {ex : Bool} {xs : List Int} {y : Int} (hl : xs.length ≤ 1000000000) : Ret Try.prog Γ 70 [.isl ex 1 (ints xs), .int .i64 y] σ (.bool (xs.contains y)) σ := by
  refine ret_of c70_ok rfl ?_
  simp (disch := omega) only [c70, go_sem]
  refine SRun.callR (indexIs_ok (ex := ex) (xs := xs) (y := y) hl) ⟨[], rfl, rfl⟩ rfl ?_
  simp (disch := omega) only [List.getD_cons_zero, List.getD_cons_succ, go_sem]
  refine W_retR c70_ok rfl ⟨?_, rfl⟩
  simp only [look, ev, V.bool.injEq, V.int.injEq, V.str.injEq, V.tup.injEq, V.agg.injEq, V.isl.injEq, List.cons.injEq, true_and, and_true, findZ_contains, Nat.reduceEqDiff, Nat.reduceAdd, Nat.reduceSub, Nat.reduceMul, Nat.reducePow, Nat.reduceDiv, Nat.reduceMod, Int.reduceToNat, Nat.reduceLeDiff, Nat.reduceLT, Int.reduceEq, Int.reduceLT, Int.reduceLE, Int.reduceGT, Int.reduceGE, Int.reduceNeg, Int.reduceSub, Int.reduceAdd, Int.reduceMul, Int.reducePow, ne_eq, reduceCtorEq, ↓reduceIte]
/-- RAT: for each clause that has the opposite of the first literal, what the two resolve to is RUP. -/
def ratOf (vars : Int) (cls : List (List Int)) (c : List Int) (l : Int) (d : List Int) : Bool := !(d.contains (-l)) || rupP vars cls (c ++ d.filter fun y => decide (¬ y = -l))
def ratP (vars : Int) (cls : List (List Int)) : List Int → Bool
  | [] => false
  | l :: r => cls.all (ratOf vars cls (l :: r) l)
theorem isRat1_ok {vars : Int} {cls : List (List Int)} {c d : List Int} {l : Int} {b1 b2 : Nat} (hb1 : σ b1 = some [intsV c]) (hb2 : σ b2 = some [.int .i64 vars, .isl false 1 (clsV cls)]) (hne : c.head? = some l) (hv : 0 ≤ vars ∧ vars ≤ 1000) (hcls : ClsOK vars cls) (hc : ∀ x ∈ c, litOK vars x) (hcl : c.length ≤ 1000) (hd : ∀ x ∈ d, litOK vars x) (hdl : d.length ≤ 1000) :
    Ret Try.prog Γ 105 [intsV d, .ptr b1 0, .ptr b2 0] σ (.bool (!ratOf vars cls c l d)) σ := by
  obtain ⟨l', r, rfl⟩ : ∃ a r, c = a :: r := by cases c with
    | nil => simp at hne
    | cons a r => exact ⟨a, r, rfl⟩
  obtain rfl : l' = l := by simpa using hne
  have hl := hc l' (by simp)
  have hl2 := hl.2
  have hlen : (l' :: r).length = r.length + 1 := rfl
  have hneg : (0 : Int) - l' = -l' := by omega
  refine ret_of c105_ok rfl ?_
  simp (disch := omega) only [c105, hb1, hb2, intsV, go_sem]
  refine W_drawW ?_
  simp (disch := omega) only [hb1, intsV, hneg, go_sem]
  refine DRun.callQ (containsI_ok (ex := false) (xs := d) (y := -l') (by omega)) ⟨[], rfl, rfl⟩ ?_
  rintro r1 s ⟨rfl, rfl⟩
  simp (disch := omega) only [go_sem]
  cases hd2 : d.contains (-l') with
  | false =>
    have hans : ratOf vars cls (l' :: r) l' d = true := by unfold ratOf; rw [hd2]; rfl
    rw [hans]
    simp (disch := omega) only [go_sem]
    refine DRun.mixE rfl ?_
    simp (disch := omega) only [go_sem]
    refine DS.skipG rfl rfl ?_
    simp (disch := omega) only [go_sem]
    refine DS.skipG rfl rfl ?_
    simp (disch := omega) only [go_sem]
    refine DRun.skipG rfl ?_
    simp (disch := omega) only [go_sem]
    refine W_retR c105_ok rfl ⟨?_, rfl⟩
    rfl
  | true =>
    have hans : ratOf vars cls (l' :: r) l' d = rupP vars cls ((l' :: r) ++ d.filter fun y => decide (¬ y = -l')) := by unfold ratOf; rw [hd2]; rfl
    rw [hans]
    simp (disch := omega) only [go_sem]
    refine DRun.mixE rfl ?_
    simp (disch := omega) only [hb1, hb2, intsV, hneg, go_sem]
    refine DS.callG (without_ok (Γ := Γ) (σ := emp) (ex := false) (c := d) (x := -l') (by omega)) ⟨[], rfl, rfl⟩ rfl rfl ?_
    rintro r2 s2 ⟨rfl, rfl⟩ _
    simp (disch := omega) only [intsV, go_sem]
    have hfl : (d.filter fun y => decide (¬ y = -l')).length ≤ 1000 := Nat.le_trans (List.length_filter_le _ _) hdl
    refine DS.callG (concatI_ok (Γ := Γ) (σ := emp) (ex := true) (ls := [l' :: r, d.filter fun y => decide (¬ y = -l')]) (by simp) (fun c hc => by
      simp only [List.mem_cons, List.not_mem_nil, or_false] at hc
      rcases hc with rfl | rfl
      · omega
      · exact hfl)) ⟨[], rfl, rfl⟩ rfl rfl ?_
    rintro r3 s3 ⟨rfl, rfl⟩ _
    simp (disch := omega) only [go_sem]
    refine DRun.callG (isRup_ok (ex2 := false) (vars := vars) (cls := cls) (c := (l' :: r) ++ d.filter fun y => decide (¬ y = -l')) hv hcls (fun x hx => by
      rcases List.mem_append.1 hx with h | h
      · exact hc x h
      · exact hd x (List.mem_filter.1 h).1) (by rw [List.length_append]; omega)) ⟨[], rfl, by simp [ev, look, intsV, cnfV]⟩ rfl ?_
    rintro r4 s4 ⟨rfl, rfl⟩
    simp (disch := omega) only [go_sem]
    refine W_retR c105_ok rfl ⟨?_, rfl⟩
    rfl
theorem isRat_ok {vars : Int} {cls : List (List Int)} {c : List Int} (hv : 0 ≤ vars ∧ vars ≤ 1000) (hcls : ClsOK vars cls) (hc : ∀ x ∈ c, litOK vars x) (hcl : c.length ≤ 1000) (hd : ∀ d ∈ cls, d.length ≤ 1000) :
    Ret Try.prog Γ 63 [cnfV vars cls, intsV c] σ (.bool (ratP vars cls c)) σ := by
  refine ret_of c63_ok rfl ?_
  simp (disch := omega) only [c63, cnfV, intsV, go_sem]
  refine SRun.boxR (by simp [ev, look, V.cells, V.one]) ?_
  intro b2 hb2
  simp (disch := omega) only [go_sem]
  refine SRun.boxR (by simp [ev, look, V.cells, V.one]) ?_
  intro b1 hb1
  have hn := upd_none.1 hb1
  have hle : ∀ c' y, σ c' = some y → upd (upd σ b2 [.int .i64 vars, .isl false 1 (clsV cls)]) b1 [intsV c] c' = some y := fun c' y h => le_upd hb1 _ _ (le_upd hb2 _ _ h)
  simp (disch := omega) only [go_sem]
  cases c with
  | nil =>
    have h0 : ((List.length ([] : List Int) : Nat) : Int) = 0 := rfl
    simp (disch := omega) only [h0, go_sem]
    exact W_retC c63_ok rfl (Conv.drop _ hle) ⟨rfl, rfl⟩
  | cons l r =>
    have hlen : (l :: r).length = r.length + 1 := rfl
    have hne : b2 ≠ b1 := fun e => hn.1 e.symm
    simp (disch := omega) only [go_sem]
    refine SRun.callR (containsFuncL_ok (p := fun v => !ratOf vars cls (l :: r) l (unInts v)) (cell_cls cls) (by rw [clsV_len]; have := hcls.1.1; omega) (fun y hy => by
      simp only [clsV, List.mem_map] at hy; obtain ⟨x, hx, rfl⟩ := hy
      rw [unInts_intsV]
      exact isRat1_ok (vars := vars) (cls := cls) (c := l :: r) (d := x) (l := l) (upd_same _ _ _) (by rw [upd_ne _ _ hne, upd_same]) rfl hv hcls hc hcl (fun z hz => hcls.2 x hx z hz) (hd x hx))) ⟨[], rfl, rfl⟩ rfl ?_
    simp (disch := omega) only [List.getD_cons_zero, List.getD_cons_succ, go_sem]
    refine W_retC c63_ok rfl (Conv.drop _ hle) ⟨?_, rfl⟩
    simp only [look, ev, V.bool.injEq, V.int.injEq, V.str.injEq, V.tup.injEq, V.agg.injEq, V.isl.injEq, List.cons.injEq, true_and, and_true, any_cls, unInts_intsV, ratP, Nat.reduceEqDiff, Nat.reduceAdd, Nat.reduceSub, Nat.reduceMul, Nat.reducePow, Nat.reduceDiv, Nat.reduceMod, Int.reduceToNat, Nat.reduceLeDiff, Nat.reduceLT, Int.reduceEq, Int.reduceLT, Int.reduceLE, Int.reduceGT, Int.reduceGE, Int.reduceNeg, Int.reduceSub, Int.reduceAdd, Int.reduceMul, Int.reducePow, ne_eq, reduceCtorEq, ↓reduceIte]
    rw [List.all_eq_not_any_not]
end Go.Proofs.Ytlojopaebdnacaa.Lg
