/- Lists of clauses compared, marked, held. -/
import Derived.Test.YtlojopaebdnacaaDoorBm
set_option linter.unusedSimpArgs false
set_option linter.unusedVariables false
namespace Go.Proofs.YtlojopaebdnacaaDoor.Lg
open Go Go.Lib
attribute [local irreducible] SRun DS DRun
variable {Γ : St} {σ σ0 : St}
def pre0 : List Int → List V := fun _ => []
theorem pre0_ok : PreOK pre0 1 := ⟨by omega, fun _ => rfl, fun a c hc => (by cases hc)⟩
def clV (cs : List (List Int)) : List V := elsF pre0 ints 1 cs
theorem clV_len (cs : List (List Int)) : (clV cs).length = cs.length := by simp [clV, elsF]
theorem clV_at {cs : List (List Int)} {i : Nat} (h : i < cs.length) : (clV cs).getD i .undef = .isl false 1 (ints (cs.getD i [])) := by
  simp [clV, elsF, List.getD, h, elV, pre0]
section
variable {P : Program} {f : FuncId} {n : Nat} {Q : V → St → Prop} {k : List It} {T : Ts} {g : GI} {l : List GI}
theorem stepW_iaddr_cl {ex : Bool} {cs : List (List Int)} {kk : IntKind} {m : Int} (h0 : 0 ≤ m) (h1 : m < cs.length) : stepW P Γ f n Q (.iaddr 1 (.c (.isl ex 1 (clV cs))) (.c (.int kk m))) g l k T σ = W P Γ f n Q (.ops l :: k) (putT T g.d (.iptr [.isl false 1 (ints (cs.getD m.toNat []))])) σ := by
  have hm : m.toNat < cs.length := by omega
  rw [stepW_iaddr_at h0 (by rw [clV_len]; exact h1), clV_at hm]; rfl
theorem stepK_iaddr_cl {K : V → St → Prop} {ex : Bool} {cs : List (List Int)} {kk : IntKind} {m : Int} (h0 : 0 ≤ m) (h1 : m < cs.length) : stepK (.iaddr 1 (.c (.isl ex 1 (clV cs))) (.c (.int kk m))) σ K = K (.iptr [.isl false 1 (ints (cs.getD m.toNat []))]) σ := by
  have hm : m.toNat < cs.length := by omega
  have e : (clV cs)[m.toNat]? = some (.isl false 1 (ints (cs.getD m.toNat []))) := by
    rw [← clV_at hm]; exact getD_some _ (by rw [clV_len]; omega)
  simp only [stepK_iaddr_isl, h0, e, if_true]; rfl
end
attribute [go_sem] stepW_iaddr_cl stepK_iaddr_cl clV_len
theorem eqIntSS_ok {ex ex2 : Bool} {cs : List (List Int)} (h1 : cs.length ≤ 1048576) (h2 : ∀ c ∈ cs, c.length ≤ 1048576) : Ret Tryd.prog Γ 42 [.isl ex 1 (clV cs), .isl ex2 1 (clV cs)] σ (.bool true) σ := by
  refine ret_of c42_ok rfl ?_
  simp (disch := omega) only [c42, dec_same, go_sem]
  refine W_loopC (α := Nat) (fun i => i ≤ cs.length) (fun i => [(0, .isl ex 1 (clV cs)), (1, .isl ex2 1 (clV cs)), (5, .int .i64 (i : Nat))]) (fun i => σ) (fun i => cs.length - i) 0 (by omega) (by simp (disch := omega) only [subT, Int.natCast_add, Int.cast_ofNat_Int, go_sem] <;> (repeat' apply And.intro) <;> first | rfl | (congr 1; omega) | assumption) rfl ?_
  intro i hi ih
  simp (disch := omega) only [go_sem]
  first | refine iteW_dec (fun hq => ?_) (fun hq => ?_) | refine iteW_of (fun hq => ?_) (fun hq => ?_)
  · have hr := h2 _ (getD_mem [] (by omega : i < cs.length))
    simp (disch := omega) only [go_sem]
    refine W_drawW ?_
    simp (disch := omega) only [go_sem]
    refine DRun.callQ (eqIntS_ok hr) ⟨[], rfl, rfl⟩ ?_
    rintro r s ⟨rfl, hs⟩
    obtain rfl := hs.symm
    simp (disch := omega) only [go_sem]
    exact ih (i + 1) _ _ (by omega) (by omega) (by simp (disch := omega) only [subT, Int.natCast_add, Int.cast_ofNat_Int, go_sem] <;> (repeat' apply And.intro) <;> first | rfl | (congr 1; omega) | assumption) rfl
  · simp (disch := omega) only [go_sem]
    exact W_retR c42_ok rfl ⟨rfl, rfl⟩
theorem eqCnf_ok {v : Int} {ex ex2 : Bool} {cs : List (List Int)} (h1 : cs.length ≤ 1048576) (h2 : ∀ c ∈ cs, c.length ≤ 1048576) : Ret Tryd.prog Γ 14 [.agg [.int .i64 v, .isl ex 1 (clV cs)], .agg [.int .i64 v, .isl ex2 1 (clV cs)]] σ (.bool true) σ := by
  have hvv : (decide ¬ v = v) = false := by simp
  refine ret_of c14_ok rfl ?_
  simp (disch := omega) only [c14, go_sem]
  refine SRun.boxR (by simp [ev, look, V.cells, V.one]) ?_
  intro b2 hb2
  simp (disch := omega) only [go_sem]
  refine SRun.boxR (by simp [ev, look, V.cells, V.one]) ?_
  intro b3 hb3
  have g2 : ∀ z, upd (upd σ b2 [.int .i64 v, .isl ex 1 (clV cs)]) b3 z b2 = some [.int .i64 v, .isl ex 1 (clV cs)] := fun z => le_upd hb3 _ _ (upd_same _ _ _)
  have hσ : ∀ z x y, σ x = some y → upd (upd σ b2 [.int .i64 v, .isl ex 1 (clV cs)]) b3 z x = some y := fun z x y h => le_upd hb3 _ _ (le_upd hb2 _ _ h)
  generalize upd σ b2 [.int .i64 v, .isl ex 1 (clV cs)] = s2 at *
  simp (disch := omega) only [g2, upd_same, hvv, go_sem]
  refine SRun.callR (eqIntSS_ok h1 h2) ⟨[], rfl, rfl⟩ rfl ?_
  simp (disch := omega) only [go_sem]
  exact W_retC c14_ok rfl (Conv.drop _ (hσ _)) ⟨rfl, rfl⟩
/-! Marks on clauses -/
def endC : Int → List Nat → Int
  | k, [] => k
  | k, n :: r => endC (k + n) r
def markC : Int → List Nat → List (List Int)
  | _, [] => []
  | k, n :: r => upFrom k n :: markC (k + n) r
theorem markC_len : ∀ (ls : List Nat) (k : Int), (markC k ls).length = ls.length := by
  intro ls
  induction ls with
  | nil => intro k; rfl
  | cons n r ih => intro k; simp [markC, ih]
theorem markC_at : ∀ (ls : List Nat) (k : Int) (i : Nat), i < ls.length → (markC k ls).getD i [] = upFrom (endC k (ls.take i)) (ls.getD i 0) := by
  intro ls
  induction ls with
  | nil => intro k i h; simp at h
  | cons n r ih =>
    intro k i h
    cases i with
    | zero => rfl
    | succ i =>
      have := ih (k + n) i (by simpa using h)
      simpa [markC, endC] using this
theorem endC_succ : ∀ (ls : List Nat) (k : Int) (i : Nat), i < ls.length → endC k (ls.take (i + 1)) = endC k (ls.take i) + (ls.getD i 0 : Nat) := by
  intro ls
  induction ls with
  | nil => intro k i h; simp at h
  | cons n r ih =>
    intro k i h
    cases i with
    | zero => simp [endC]
    | succ i => simpa [endC] using ih (k + n) i (by simpa using h)
theorem endC_ge : ∀ (ls : List Nat) (k : Int), k ≤ endC k ls := by
  intro ls
  induction ls with
  | nil => intro k; simp [endC]
  | cons n r ih => intro k; have := ih (k + n); simp only [endC]; omega
theorem endC_app : ∀ (a b : List Nat) (k : Int), endC k (a ++ b) = endC (endC k a) b := by
  intro a
  induction a with
  | nil => intro b k; rfl
  | cons n r ih => intro b k; simp only [List.cons_append, endC]; exact ih b _
theorem endC_take {ls : List Nat} {k : Int} (i : Nat) : k ≤ endC k (ls.take i) ∧ endC k (ls.take i) ≤ endC k ls := by
  refine ⟨endC_ge _ _, ?_⟩
  have := endC_app (ls.take i) (ls.drop i) k
  rw [List.take_append_drop] at this
  rw [this]; exact endC_ge _ _
theorem endC_le : ∀ (ls : List Nat) (k : Int), (∀ n ∈ ls, n ≤ 12) → endC k ls ≤ k + 12 * ls.length := by
  intro ls
  induction ls with
  | nil => intro k _; simp [endC]
  | cons n r ih =>
    intro k h
    have h1 := ih (k + n) fun m hm => h m (by simp [hm])
    have h2 := h n (by simp)
    simp only [endC, List.length_cons]; omega
def mixC (k : Int) (cs : List (List Int)) (i : Nat) : List (List Int) := (markC k (cs.map List.length)).take i ++ cs.drop i
theorem mixC_len {k : Int} {cs : List (List Int)} {i : Nat} (h : i ≤ cs.length) : (mixC k cs i).length = cs.length := by
  simp [mixC, markC_len]; omega
theorem mixC_zero (k : Int) (cs : List (List Int)) : mixC k cs 0 = cs := by simp [mixC]
theorem mixC_all (k : Int) (cs : List (List Int)) : mixC k cs cs.length = markC k (cs.map List.length) := by
  simp [mixC, List.take_of_length_le, markC_len]
theorem mixC_at {k : Int} {cs : List (List Int)} {i : Nat} (h : i < cs.length) : (mixC k cs i)[i]? = some (cs.getD i []) := by
  unfold mixC
  rw [List.getElem?_append_right (by simp [markC_len]; omega)]
  simp [markC_len, List.getD, h, Nat.min_eq_left (Nat.le_of_lt h)]
theorem mixC_set {k : Int} {cs : List (List Int)} {i : Nat} (h : i < cs.length) : (mixC k cs i).set i ((markC k (cs.map List.length)).getD i []) = mixC k cs (i + 1) := by
  have hm : (markC k (cs.map List.length)).length = cs.length := by simp [markC_len]
  unfold mixC
  have hlt : ((markC k (cs.map List.length)).take i).length = i := by rw [List.length_take, hm]; omega
  rw [List.set_append_right _ _ (by omega), hlt, Nat.sub_self, drop_cons [] h, List.set_cons_zero, take_succ [] (by omega)]
  simp
theorem heldIntSS_ok {ex : Bool} {ls : List Nat} {k : Int} (hl : ls.length ≤ 1048576) (hn : ∀ n ∈ ls, n ≤ 1048576) (hk : 0 ≤ k) (he : endC k ls ≤ 1000000000) : Ret Tryd.prog Γ 44 [.isl ex 1 (clV (markC k ls)), .int .i64 k] σ (.int .i64 (endC k ls)) σ := by
  have hml := markC_len ls k
  refine ret_of c44_ok rfl ?_
  simp (disch := omega) only [c44, go_sem]
  refine W_loopC (α := Nat) (fun i => i ≤ ls.length) (fun i => [(0, .isl ex 1 (clV (markC k ls))), (1, .int .i64 (endC k (ls.take i))), (5, .int .i64 (i : Nat))]) (fun _ => σ) (fun i => ls.length - i) 0 (by omega) (by simp (disch := omega) only [subT, Int.natCast_add, Int.cast_ofNat_Int, List.take_zero, endC, go_sem] <;> (repeat' apply And.intro) <;> first | rfl | (congr 1; omega) | assumption) rfl ?_
  intro i hi ih
  simp (disch := omega) only [hml, go_sem]
  first | refine iteW_dec (fun h1 => ?_) (fun h1 => ?_) | refine iteW_of (fun h1 => ?_) (fun h1 => ?_)
  · have hi' : i < ls.length := by omega
    have hat := markC_at ls k i hi'
    have hsu := endC_succ ls k i hi'
    obtain ⟨t1, t2⟩ := endC_take (ls := ls) (k := k) i
    obtain ⟨u1, u2⟩ := endC_take (ls := ls) (k := k) (i + 1)
    have hni := hn _ (getD_mem 0 hi')
    generalize endC k (ls.take i) = p at *
    have hln : (upFrom p (ls.getD i 0)).length = ls.getD i 0 := upFrom_len _ _
    simp (disch := omega) only [hml, hat, go_sem]
    refine SRun.callR (heldIntS_ok (n := ls.getD i 0) (k := p) hni (by omega)) ⟨[], rfl, rfl⟩ rfl ?_
    have hd : decide (p + ((ls.getD i 0 : Nat) : Int) < 0) = false := decide_eq_false (by omega)
    simp (disch := omega) only [hd, go_sem]
    refine ih (i + 1) _ _ (by omega) (by omega) ?_ rfl
    rw [hsu]
    exact (by simp (disch := omega) only [subT, Int.natCast_add, Int.cast_ofNat_Int, go_sem] <;> (repeat' apply And.intro) <;> first | rfl | (congr 1; omega) | assumption)
  · have hil : i = ls.length := by omega
    subst hil
    rw [List.take_length] at *
    simp (disch := omega) only [go_sem]
    exact W_retR c44_ok rfl ⟨by simp [look], rfl⟩
theorem heldCnf_ok {v : Int} {ex : Bool} {ls : List Nat} {k : Int} (hl : ls.length ≤ 1048576) (hn : ∀ n ∈ ls, n ≤ 1048576) (hk : 0 ≤ k) (he : endC k ls ≤ 1000000000) : Ret Tryd.prog Γ 16 [.agg [.int .i64 v, .isl ex 1 (clV (markC k ls))], .int .i64 k] σ (.int .i64 (endC k ls)) σ := by
  have hge := endC_ge ls k
  have hd : decide (endC k ls < 0) = false := decide_eq_false (by omega)
  refine ret_of c16_ok rfl ?_
  simp (disch := omega) only [c16, go_sem]
  refine SRun.boxR (by simp [ev, look, V.cells, V.one]) ?_
  intro b2 hb2
  have hσ : ∀ x y, σ x = some y → upd σ b2 [.int .i64 v, .isl ex 1 (clV (markC k ls))] x = some y := fun x y h => le_upd hb2 _ _ h
  simp (disch := omega) only [upd_same, go_sem]
  refine SRun.callR (heldIntSS_ok hl hn hk he) ⟨[], rfl, rfl⟩ rfl ?_
  simp (disch := omega) only [hd, go_sem]
  exact W_retC c16_ok rfl (Conv.drop _ hσ) ⟨rfl, rfl⟩
theorem els_row0 {cs : List (List Int)} {qs : List V} {sb : St} (h : RwAt σ0 sb 1 ints cs qs) {i : Nat} {q1 : V} (hi : i < cs.length) (hq : qs[i]? = some q1) : (flat (els pre0 cs qs))[i]? = some q1 := by
  have hE := fun x hx => (els_ok pre0_ok h x hx).1
  have hc := (h.cells (List.mem_of_getElem? hq)).1
  have := flat_cell hE (i := i) (j := 0) (c := .undef) (els_at (pre := pre0) (show cs[i]? = some cs[i] by simp [hi]) hq) (by omega)
  rw [Nat.mul_one, Nat.add_zero] at this
  rw [this, elV_cells hc]
  rfl
set_option maxHeartbeats 1000000 in
theorem markIntSS_at {cs : List (List Int)} {q : V} {qs : List V} {k : Int} (hA : LLA σ0 1 1 pre0 ints cs q qs σ) (hl : cs.length ≤ 1000) (hn : ∀ x ∈ cs, x.length ≤ 1000) (hk : 0 ≤ k) (he : endC k (cs.map List.length) ≤ 100000000) :
    ACalls Tryd.prog Γ 43 [q, .int .i64 k] σ fun r s => r = .int .i64 (endC k (cs.map List.length)) ∧ LLA σ0 1 1 pre0 ints (markC k (cs.map List.length)) q qs s ∧ ∀ b, blk q ≠ some b → (∀ m ∈ qs, blk m ≠ some b) → s b = σ b := by
  have hln := hA.rows.len
  have hel : (els pre0 cs qs).length = cs.length := els_len hln
  rcases hA.at_.2 with ⟨h0, es', rfl⟩ | ⟨bq, cap, rfl, hbq⟩
  · have hx : cs = [] := List.eq_nil_of_length_eq_zero (by rw [← hel, h0]; rfl)
    subst hx
    refine acalls_W c43_ok rfl ?_
    simp (disch := omega) only [c43, go_sem]
    refine W_loopC (α := Unit) (fun _ => True) (fun _ => [(0, .isl true es' []), (1, .int .i64 k), (5, .int .i64 0)]) (fun _ => σ) (fun _ => 0) () trivial (by simp (disch := omega) only [subT, Int.natCast_add, Int.cast_ofNat_Int, go_sem] <;> (repeat' apply And.intro) <;> first | rfl | (congr 1; omega) | assumption) rfl ?_
    intro _ _ _
    simp (disch := omega) only [List.length_nil, go_sem]
    exact W_retR c43_ok rfl ⟨by simp [look, endC], hA, fun _ _ _ => rfl⟩
  · rw [hel] at hA ⊢
    generalize hls : cs.map List.length = ls at *
    have hll : ls.length = cs.length := by rw [← hls]; simp
    refine acalls_W c43_ok rfl ?_
    simp (disch := omega) only [c43, go_sem]
    refine W_loopC (α := Nat × St) (fun p => p.1 ≤ cs.length ∧ LLA σ0 1 1 pre0 ints (mixC k cs p.1) (.msl bq 1 0 cs.length cap) qs p.2 ∧ ∀ b, b ≠ bq → (∀ m ∈ qs, blk m ≠ some b) → p.2 b = σ b) (fun p => [(0, .msl bq 1 0 cs.length cap), (1, .int .i64 (endC k (ls.take p.1))), (5, .int .i64 (p.1 : Nat))]) (fun p => p.2) (fun p => cs.length - p.1) (0, σ) ⟨by simp, by rw [mixC_zero]; exact hA, fun _ _ _ => rfl⟩ (by simp (disch := omega) only [subT, Int.natCast_add, Int.cast_ofNat_Int, List.take_zero, endC, go_sem] <;> (repeat' apply And.intro) <;> first | rfl | (congr 1; omega) | assumption) rfl ?_
    rintro ⟨i, s⟩ ⟨hi, hL, hfr⟩ ih
    dsimp only at hi hL hfr
    have hb := hL.at_.has (b := bq) rfl
    have hml := mixC_len (k := k) hi
    obtain ⟨t1, t2⟩ := endC_take (ls := ls) (k := k) i
    simp (disch := omega) only [go_sem]
    first | refine iteW_dec (fun h1 => ?_) (fun h1 => ?_) | refine iteW_of (fun h1 => ?_) (fun h1 => ?_)
    · have hi' : i < cs.length := by omega
      obtain ⟨q1, hq1⟩ : ∃ q1, qs[i]? = some q1 := ⟨_, List.getElem?_eq_getElem (by omega)⟩
      have hat := markC_at ls k i (by omega)
      have hsu := endC_succ ls k i (by omega)
      obtain ⟨u1, u2⟩ := endC_take (ls := ls) (k := k) (i + 1)
      have hgl : ls.getD i 0 = (cs.getD i []).length := by rw [← hls]; simp [List.getD, hi']
      have hmx := mixC_at (k := k) hi'
      have hrow := hL.rows.at_ i _ q1 hmx hq1
      have hni := hn _ (getD_mem [] hi')
      have hset := mixC_set (k := k) hi'
      rw [hls, hat] at hset
      have hapq : Apt q1 (.msl bq 1 0 cs.length cap) := hL.ap q1 (List.mem_of_getElem? hq1)
      have hg := els_row0 hL.rows (by rw [hml]; exact hi') hq1
      generalize endC k (ls.take i) = p at *
      simp (disch := omega) only [hb, hg, go_sem]
      refine SRun.callQ (markIntS_at (k := p) (xs := cs.getD i []) hrow (by omega) (by omega)) ⟨[], rfl, rfl⟩ rfl ?_
      rintro r s2 ⟨rfl, e2⟩
      simp (disch := omega) only [go_sem]
      refine ih (i + 1, s2) _ _ ⟨by simp only; omega, ?_, fun b hb hm => ?_⟩ (by simp only; omega) ?_ rfl
      · rw [← hset]
        refine hL.set (a := upFrom p (ls.getD i 0)) (t := s2) (by rw [hml]; exact hi') hq1 ?_ ?_ ?_
        · have h5 : els pre0 ((mixC k cs i).set i (upFrom p (ls.getD i 0))) qs = els pre0 (mixC k cs i) qs := by
            rw [els_set hq1]
            apply List.ext_getElem?
            intro j
            by_cases e : j = i
            · subst e
              rw [List.getElem?_set_self (by rw [els_len hL.rows.len, hml]; exact hi'), els_at hmx hq1]
              rfl
            · rw [List.getElem?_set_ne (Ne.symm e)]
          rw [h5, e2]
          exact hL.at_.to fun b hb => wrt_ne (fun e => hapq b e hb)
        · rw [e2]
          have := hrow.wrt (ys := ints (upFrom p (ls.getD i 0))) (by rw [ints_len, upFrom_len, hgl]; simp [ints_len]) (ints_ok _)
          rw [flat_ints] at this
          rw [hgl] at this ⊢
          exact this
        · intro j m hj hm b hb
          rw [e2]
          refine wrt_ne (fun e => ?_)
          rcases Nat.lt_or_gt_of_ne hj with h | h
          · exact hL.rows.ap j i m q1 h hm hq1 b hb e
          · exact hL.rows.ap i j q1 m h hq1 hm b e hb
      · dsimp only
        rw [e2, wrt_ne (hm q1 (List.mem_of_getElem? hq1))]
        exact hfr b hb hm
      · simp only [hsu, hgl]
        exact (by simp (disch := omega) only [subT, Int.natCast_add, Int.cast_ofNat_Int, go_sem] <;> (repeat' apply And.intro) <;> first | rfl | (congr 1; omega) | assumption)
    · have hil : i = cs.length := by omega
      subst hil
      rw [mixC_all, hls] at hL
      rw [List.take_of_length_le (by omega)]
      simp (disch := omega) only [go_sem]
      exact W_retR c43_ok rfl ⟨rfl, hL, fun b hb hm => hfr b (fun e => hb (by rw [e]; rfl)) hm⟩
theorem markCnf_at {v : Int} {cs : List (List Int)} {q : V} {qs : List V} {k : Int} (hA : LLA σ0 1 1 pre0 ints cs q qs σ) (hl : cs.length ≤ 1000) (hn : ∀ x ∈ cs, x.length ≤ 1000) (hk : 0 ≤ k) (he : endC k (cs.map List.length) ≤ 100000000) (hle : ∀ b c, σ0 b = some c → σ b = some c) :
    ACalls Tryd.prog Γ 15 [.agg [.int .i64 v, q], .int .i64 k] σ fun r s => r = .int .i64 (endC k (cs.map List.length)) ∧ LLA σ0 1 1 pre0 ints (markC k (cs.map List.length)) q qs s ∧ ∀ b c, σ0 b = some c → s b = some c := by
  have hone := hA.at_.one
  have hcel := hA.at_.cells
  refine acalls_W c15_ok rfl ?_
  simp (disch := omega) only [c15, go_sem]
  refine SRun.boxR (by intro c hc; rcases List.mem_cons.1 hc with h | h; rw [h]; rfl; rw [List.mem_singleton.1 h]; exact hone) ?_
  intro b2 hb2
  have hA2 := hA.mono (le_upd (cs := [.int .i64 v, q]) hb2)
  simp (disch := omega) only [upd_same, go_sem]
  refine SRun.callQ (markIntSS_at hA2 hl hn hk he) ⟨[], rfl, rfl⟩ rfl ?_
  rintro r s ⟨rfl, hM, hfr⟩
  simp (disch := omega) only [go_sem]
  refine W_retR c15_ok rfl ⟨rfl, hM, fun b c h => ?_⟩
  rw [hfr b (fun e => by rw [hA.new b e] at h; cases h) (fun m hm e => by rw [hA.rows.new m hm b e] at h; cases h)]
  exact le_upd hb2 _ _ (hle b c h)
end Go.Proofs.YtlojopaebdnacaaDoor.Lg
