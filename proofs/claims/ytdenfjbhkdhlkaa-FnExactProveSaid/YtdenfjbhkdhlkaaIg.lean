/- An expression that comes in: its size, its copy in new memory. -/
import Derived.Test.YtdenfjbhkdhlkaaIf
set_option linter.unusedSimpArgs false
set_option linter.unusedVariables false
namespace Go.Proofs.Ytdenfjbhkdhlkaa.Lg
open Go
attribute [local irreducible] SRun DS DRun
variable {Γ : St} {σ σ0 : St}
/-- No list of Kids is longer than memory. -/
inductive LenE : Ex → Prop
  | mk {k n : Int} {ks : List Ex} : ks.length ≤ 9223372036854775807 → (∀ e ∈ ks, LenE e) → LenE (.mk k n ks)
theorem LenE.len {k n : Int} {ks : List Ex} (h : LenE (.mk k n ks)) : ks.length ≤ 9223372036854775807 ∧ ∀ e ∈ ks, LenE e := by cases h with | mk h1 h2 => exact ⟨h1, h2⟩
def belowE : Ex → Nat | .mk _ _ ks => sizeL ks
theorem sizeE_below (e : Ex) : sizeE e = 1 + belowE e := by obtain ⟨k, n, ks⟩ := e; rfl
/-- What is left of a number of nodes. -/
def LeftOK (l : Int) (n : Nat) (m : Int) : Prop := -1 ≤ m ∧ m ≤ l ∧ (0 ≤ m → m = l - n)
theorem szExS_of {ks : List Ex} {l : Int} (hl : 0 ≤ l ∧ l ≤ 1048576) (hn : ks.length ≤ 9223372036854775807) (ih : ∀ e ∈ ks, ∀ Γ σ l, 0 ≤ l ∧ l ≤ 1048576 → ACalls Try.prog Γ 4 [exV e, .int .i64 l] σ fun r s => ∃ m, r = .int .i64 m ∧ s = σ ∧ LeftOK l (belowE e) m) :
    ACalls Try.prog Γ 13 [.isl false 3 (exsV ks), .int .i64 l] σ fun r s => ∃ m, r = .int .i64 m ∧ s = σ ∧ LeftOK l (sizeL ks) m := by
  have hlen := sizeL_len ks
  refine acalls_W c13_ok rfl ?_
  simp (disch := omega) only [c13, go_sem]
  first | refine iteW_dec (fun h1 => ?_) (fun h1 => ?_) | refine iteW_of (fun h1 => ?_) (fun h1 => ?_)
  · simp (disch := omega) only [go_sem]
    exact W_retR c13_ok rfl ⟨-1, rfl, rfl, by omega, by omega, by omega⟩
  simp (disch := omega) only [go_sem]
  refine W_loopC (α := Nat × Int) (fun p => p.1 ≤ ks.length ∧ 0 ≤ p.2 ∧ p.2 ≤ l ∧ p.2 + sizeL (ks.take p.1) + (ks.length - p.1 : Nat) = l) (fun p => [(0, .isl false 3 (exsV ks)), (1, .int .i64 p.2), (5, .int .i64 (p.1 : Nat))]) (fun _ => σ) (fun p => ks.length - p.1) (0, l - ks.length) ⟨by simp, by simp only; omega, by simp only; omega, by simp [sizeL]⟩ (by simp (disch := omega) only [subT, Int.natCast_add, Int.cast_ofNat_Int, go_sem] <;> (repeat' apply And.intro) <;> first | rfl | (congr 1; omega) | assumption) rfl ?_
  rintro ⟨i, a⟩ ⟨hi, ha, hal, hs⟩ ih2
  dsimp only at hi ha hal hs
  simp (disch := omega) only [go_sem]
  first | refine iteW_dec (fun hq => ?_) (fun hq => ?_) | refine iteW_of (fun hq => ?_) (fun hq => ?_)
  · have he := getD_mem default (by omega : i < ks.length)
    have hst : sizeL (ks.take (i + 1)) = sizeL (ks.take i) + sizeE (ks.getD i default) := by
      rw [take_succ default (by omega), sizeL_sum, sizeL_sum, List.map_append, List.sum_append]; simp
    have hsb := sizeE_below (ks.getD i default)
    simp (disch := omega) only [go_sem]
    generalize ks.getD i default = e at *
    refine SRun.callQ (ih e he _ _ a (by omega)) ⟨[], rfl, rfl⟩ rfl ?_
    rintro r s ⟨m, rfl, hs', hm1, hm2, hm3⟩
    obtain rfl := hs'.symm
    simp (disch := omega) only [go_sem]
    first | refine iteW_dec (fun h2 => ?_) (fun h2 => ?_) | refine iteW_of (fun h2 => ?_) (fun h2 => ?_)
    · simp (disch := omega) only [go_sem]
      exact W_retR c13_ok rfl ⟨-1, rfl, rfl, by omega, by omega, by omega⟩
    · simp (disch := omega) only [go_sem]
      have := hm3 (by omega)
      exact ih2 (i + 1, m) _ _ ⟨by simp only; omega, by simp only; omega, by simp only; omega, by simp only; omega⟩ (by simp only; omega) (by simp (disch := omega) only [subT, Int.natCast_add, Int.cast_ofNat_Int, go_sem] <;> (repeat' apply And.intro) <;> first | rfl | (congr 1; omega) | assumption) rfl
  · obtain rfl : i = ks.length := by omega
    rw [List.take_length] at hs
    simp (disch := omega) only [go_sem]
    exact W_retR c13_ok rfl ⟨a, rfl, rfl, by omega, by omega, by omega⟩
theorem szEx_ok : ∀ e, LenE e → ∀ {Γ σ : St} {l : Int}, 0 ≤ l ∧ l ≤ 1048576 → ACalls Try.prog Γ 4 [exV e, .int .i64 l] σ fun r s => ∃ m, r = .int .i64 m ∧ s = σ ∧ LeftOK l (belowE e) m := by
  refine Ex.ind fun k n ks ih hE Γ σ l hl => ?_
  obtain ⟨hn, hk⟩ := hE.len
  refine acalls_W c4_ok rfl ?_
  simp (disch := omega) only [c4, exV_mk, go_sem]
  refine SRun.boxR (by simp [ev, look, V.cells, V.one]) ?_
  intro b2 hb2
  have g2 : upd σ b2 [.int .i64 k, .int .i64 n, .isl false 3 (exsV ks)] b2 = some [.int .i64 k, .int .i64 n, .isl false 3 (exsV ks)] := upd_same _ _ _
  have hle : ∀ d x, σ d = some x → upd σ b2 [.int .i64 k, .int .i64 n, .isl false 3 (exsV ks)] d = some x := le_upd hb2
  simp (disch := omega) only [g2, go_sem]
  refine SRun.callQ (szExS_of hl hn fun e he Γ σ l h => ih e he (hk e he) h) ⟨[], rfl, rfl⟩ rfl ?_
  rintro r s ⟨m, rfl, hs', hm1, hm2, hm3⟩
  obtain rfl := hs'.symm
  simp (disch := omega) only [go_sem]
  first | refine iteW_dec (fun h1 => ?_) (fun h1 => ?_) | refine iteW_of (fun h1 => ?_) (fun h1 => ?_)
  · simp (disch := omega) only [go_sem]
    exact W_retC c4_ok (r := .int .i64 (-1)) (r' := .int .i64 (-1)) (σ' := σ) rfl (Conv.drop _ hle) ⟨-1, rfl, rfl, by omega, by omega, by omega⟩
  · simp (disch := omega) only [go_sem]
    exact W_retC c4_ok (r := .int .i64 m) (r' := .int .i64 m) (σ' := σ) rfl (Conv.drop _ hle) ⟨m, rfl, rfl, hm1, hm2, hm3⟩
/-! The copy. -/
def z3 : List V := [.int .i64 0, .int .i64 0, .isl true 0 []]
theorem sets3 {A B : List V} {x y z : V} {m : Nat} (h : A.length = m) : sets (A ++ (z3 ++ B)) m [x, y, z] = (A ++ [x, y, z]) ++ B := by
  subst h
  simp only [sets, z3]
  rw [List.set_append_right _ _ (Nat.le_refl _), Nat.sub_self]
  rw [List.set_append_right _ _ (by omega), show A.length + 1 - A.length = 1 by omega]
  rw [List.set_append_right _ _ (by omega), show A.length + 1 + 1 - A.length = 2 by omega]
  simp
/-- A copy in new memory. -/
def CopyE (σ : St) (e : Ex) (r : V) (s : St) : Prop := ∃ q bs, r = .agg [.int .i64 (exK e), .int .i64 (exN e), q] ∧ kidsAt s e q bs ∧ bs.Nodup ∧ (∀ b ∈ bs, σ b = none) ∧ ∀ d c, σ d = some c → s d = some c
set_option maxHeartbeats 2000000 in
theorem toExS_of {ks : List Ex} (hn : ks.length ≤ 2000000) (ih : ∀ e ∈ ks, ∀ Γ σ, ACalls Try.prog Γ 6 [exV e] σ fun r s => CopyE σ e r s) :
    ACalls Try.prog Γ 17 [.isl false 3 (exsV ks)] σ fun r s => ∃ b bs cs, r = .msl b 3 0 ks.length ks.length ∧ s b = some cs ∧ listAt s ks cs bs ∧ b ∉ bs ∧ bs.Nodup ∧ σ b = none ∧ (∀ d ∈ bs, σ d = none) ∧ ∀ d c, σ d = some c → s d = some c := by
  refine acalls_W c17_ok rfl ?_
  simp (disch := omega) only [c17, go_sem]
  refine SRun.mkslR (n' := ks.length) (m := ks.length) rfl rfl rfl (Nat.le_refl _) (by omega) (by omega) ?_
  intro b hb
  have hz : ([V.int .i64 0, V.int .i64 0, V.isl true 0 []] : List V) = z3 := rfl
  rw [hz]
  have hzl : ∀ n : Nat, (List.replicate n z3).flatten.length = n * 3 := fun n => by
    induction n with
    | zero => rfl
    | succ n ih => rw [List.replicate_succ, List.flatten_cons, List.length_append, ih]; simp [z3]; omega
  simp (disch := omega) only [go_sem]
  refine W_loopC (α := Nat × List V × List Nat × St) (fun p => p.1 ≤ ks.length ∧ p.2.2.2 b = some (p.2.1 ++ (List.replicate (ks.length - p.1) z3).flatten) ∧ p.2.1.length = p.1 * 3 ∧ listAt p.2.2.2 (ks.take p.1) p.2.1 p.2.2.1 ∧ b ∉ p.2.2.1 ∧ p.2.2.1.Nodup ∧ (∀ d ∈ p.2.2.1, σ d = none) ∧ ∀ d c, σ d = some c → p.2.2.2 d = some c)
    (fun p => [(0, .isl false 3 (exsV ks)), (3, .msl b 3 0 ks.length ks.length), (4, .int .i64 (p.1 : Nat))]) (fun p => p.2.2.2) (fun p => ks.length - p.1) (0, [], [], upd σ b (List.replicate ks.length z3).flatten) ⟨by simp, (by show upd σ b _ b = _; rw [upd_same]; simp), rfl, by rw [List.take_zero, listAt_nil]; exact ⟨rfl, rfl⟩, by simp, List.nodup_nil, (fun d hd => by simp only at hd; cases hd), le_upd hb⟩ (by simp (disch := omega) only [subT, Int.natCast_add, Int.cast_ofNat_Int, go_sem] <;> (repeat' apply And.intro) <;> first | rfl | (congr 1; omega) | assumption) rfl ?_
  rintro ⟨i, cD, bs, s⟩ ⟨hi, hsb, hcl, hla, hbn, hnd, hfr, hle⟩ ih2
  dsimp only at hi hsb hcl hla hbn hnd hfr hle
  simp (disch := omega) only [go_sem]
  first | refine iteW_dec (fun hq => ?_) (fun hq => ?_) | refine iteW_of (fun hq => ?_) (fun hq => ?_)
  · have he := getD_mem default (by omega : i < ks.length)
    have htk := take_succ (default : Ex) (by omega : i < ks.length)
    have hrep : ks.length - i = ks.length - (i + 1) + 1 := by omega
    simp (disch := omega) only [go_sem]
    generalize ks.getD i default = e at *
    refine SRun.callQ (ih e he _ _) ⟨[], rfl, rfl⟩ rfl ?_
    rintro r s3 ⟨q', bs', rfl, hk, hnd', hfr', hle3⟩
    have hq1 := hk.one
    have hb3 := hle3 _ _ hsb
    rw [hrep, List.replicate_succ, List.flatten_cons] at hb3
    have hbl : (cD ++ (z3 ++ (List.replicate (ks.length - (i + 1)) z3).flatten)).length = ks.length * 3 := by
      rw [List.length_append, List.length_append, hzl, hcl]; simp [z3]; omega
    have hset := sets3 (B := (List.replicate (ks.length - (i + 1)) z3).flatten) (x := .int .i64 (exK e)) (y := .int .i64 (exN e)) (z := q') hcl
    have hnb' : b ∉ bs' := fun h => by have := hfr' b h; rw [hsb] at this; cases this
    have hone : (∀ c, c ∈ [V.int .i64 (exK e), V.int .i64 (exN e), q'] → c.one = true) = True := eq_true fun c hc => by
      simp only [List.mem_cons, List.not_mem_nil, or_false] at hc
      rcases hc with rfl | rfl | rfl
      · rfl
      · rfl
      · exact hq1.1
    simp (disch := omega) only [hb3, hbl, hset, hone, go_sem]
    refine ih2 (i + 1, cD ++ [.int .i64 (exK e), .int .i64 (exN e), q'], bs ++ bs', upd s3 b (cD ++ [.int .i64 (exK e), .int .i64 (exN e), q'] ++ (List.replicate (ks.length - (i + 1)) z3).flatten)) _ _ ⟨by simp only; omega, upd_same _ _ _, by simp only [List.length_append, List.length_cons, List.length_nil]; omega, ?_, by simp [hbn, hnb'], ?_, fun d hd => ?_, fun d c hd => ?_⟩ (by simp only; omega) (by simp (disch := omega) only [subT, Int.natCast_add, Int.cast_ofNat_Int, go_sem] <;> (repeat' apply And.intro) <;> first | rfl | (congr 1; omega) | assumption) rfl
    · simp only
      rw [htk]
      exact listAt_app (hla.more fun d hd c hc => by rw [upd_ne _ _ (fun e => hbn (by rw [← e]; exact hd))]; exact hle3 _ _ hc) (listAt_one (kidsAt.more e q' bs' hk fun d hd c hc => by rw [upd_ne _ _ (fun e => hnb' (by rw [← e]; exact hd))]; exact hc))
    · simp only
      refine List.nodup_append.2 ⟨hnd, hnd', fun a ha b hb hab => ?_⟩
      subst hab
      exact hla.has a ha (hfr' a hb)
    · simp only at hd
      rcases List.mem_append.1 hd with hd | hd
      · exact hfr d hd
      · exact none_of hle d (hfr' d hd)
    · simp only
      rw [upd_ne _ _ (fun e => by subst e; rw [hb] at hd; cases hd)]
      exact hle3 _ _ (hle _ _ hd)
  · obtain rfl : i = ks.length := by omega
    rw [List.take_length] at hla
    rw [Nat.sub_self, List.replicate_zero, List.flatten_nil, List.append_nil] at hsb
    simp (disch := omega) only [go_sem]
    exact W_retR c17_ok rfl ⟨b, bs, cD, rfl, hsb, hla, hbn, hnd, hb, hfr, hle⟩
set_option maxHeartbeats 1000000 in
theorem toEx_own : ∀ e, sizeE e ≤ 2000000 → ∀ {Γ σ : St}, ACalls Try.prog Γ 6 [exV e] σ fun r s => CopyE σ e r s := by
  refine Ex.ind fun k n ks ih hsz Γ σ => ?_
  have hlen := sizeL_len ks
  simp only [sizeE] at hsz
  refine acalls_W c6_ok rfl ?_
  simp (disch := omega) only [c6, exV_mk, go_sem]
  refine SRun.boxR (by simp [ev, look, V.cells, V.one]) ?_
  intro b1 hb1
  have g1 := upd_same σ b1 [.int .i64 k, .int .i64 n, .isl false 3 (exsV ks)]
  have l1 : ∀ d x, σ d = some x → upd σ b1 [.int .i64 k, .int .i64 n, .isl false 3 (exsV ks)] d = some x := le_upd hb1
  simp (disch := omega) only [go_sem]
  generalize upd σ b1 [.int .i64 k, .int .i64 n, .isl false 3 (exsV ks)] = s1 at *
  refine SRun.allocR ?_
  intro b2 hb2
  have g2 := upd_same s1 b2 [.int .i64 0, .int .i64 0, .isl true 0 []]
  have l2 := le_upd (cs := [.int .i64 0, .int .i64 0, .isl true 0 []]) hb2
  have g12 := l2 _ _ g1
  simp (disch := omega) only [go_sem]
  generalize upd s1 b2 [.int .i64 0, .int .i64 0, .isl true 0 []] = s2 at *
  refine SRun.allocR ?_
  intro b3 hb3
  have n13 : b1 ≠ b3 := fun e => by subst e; rw [g12] at hb3; cases hb3
  have g13 : ∀ z, upd s2 b3 z b1 = some [.int .i64 k, .int .i64 n, .isl false 3 (exsV ks)] := fun z => by rw [upd_ne _ _ n13]; exact g12
  simp (disch := omega) only [g13, upd_same, upd_upd, go_sem]
  have l3 := le_upd (cs := [.int .i64 k, .int .i64 n, .isl true 0 []]) hb3
  have g3 := upd_same s2 b3 [.int .i64 k, .int .i64 n, .isl true 0 []]
  have g2' := l3 _ _ g2
  have hσ : ∀ d x, σ d = some x → upd s2 b3 [.int .i64 k, .int .i64 n, .isl true 0 []] d = some x := fun d x h => l3 _ _ (l2 _ _ (l1 _ _ h))
  have hσ23 : ∀ d x, σ d = some x → d ≠ b2 ∧ d ≠ b3 := fun d x h => ⟨fun e => by (subst e; rw [l1 _ _ h] at hb2; cases hb2), fun e => by (subst e; rw [l2 _ _ (l1 _ _ h)] at hb3; cases hb3)⟩
  generalize upd s2 b3 [.int .i64 k, .int .i64 n, .isl true 0 []] = s3 at *
  refine SRun.callQ (toExS_of (by omega) fun e he Γ σ => ih e he (by have := sizeL_mem he; omega)) ⟨[], rfl, rfl⟩ rfl ?_
  rintro r s4 ⟨b, bs, cs, rfl, hsb, hla, hbn, hnd, hb, hfr, hle⟩
  have g34 := hle _ _ g3
  have g24 := hle _ _ g2'
  have n23 : b2 ≠ b3 := fun e => by subst e; rw [g2] at hb3; cases hb3
  have nb : ∀ d, (d = b ∨ d ∈ bs) → d ≠ b2 ∧ d ≠ b3 := fun d hd => by
    have : s3 d = none := hd.elim (fun e => by rw [e]; exact hb) (hfr d)
    exact ⟨fun e => by (subst e; rw [g2'] at this; cases this), fun e => by (subst e; rw [g3] at this; cases this)⟩
  have g24' : ∀ z, upd s4 b3 z b2 = some [.int .i64 0, .int .i64 0, .isl true 0 []] := fun z => by rw [upd_ne _ _ n23]; exact g24
  simp (disch := omega) only [g34, g24', upd_same, go_sem]
  refine W_retR c6_ok (resV_cellA rfl (upd_same _ _ _) rfl) ⟨.msl b 3 0 ks.length ks.length, b :: bs, rfl, ?_, List.nodup_cons.2 ⟨hbn, hnd⟩, fun d hd => ?_, fun d c hd => ?_⟩
  · rw [kidsAt_mk]
    refine .inr ⟨b, ks.length, cs, bs, rfl, ?_, rfl, hla.more fun d hd c hc => ?_⟩
    · rw [upd_ne _ _ (nb b (.inl rfl)).1, upd_ne _ _ (nb b (.inl rfl)).2]; exact hsb
    · rw [upd_ne _ _ (nb d (.inr hd)).1, upd_ne _ _ (nb d (.inr hd)).2]; exact hc
  · rcases List.mem_cons.1 hd with rfl | hd
    · exact none_of hσ _ hb
    · exact none_of hσ _ (hfr d hd)
  · rw [upd_ne _ _ (hσ23 d c hd).1, upd_ne _ _ (hσ23 d c hd).2]
    exact hle _ _ (hσ d c hd)
theorem toEx_ok {e : Ex} (hsz : sizeE e ≤ 2000000) : Ret Try.prog Γ 6 [exV e] σ (exV e) σ :=
  (toEx_own e hsz).conv fun r s ⟨q, bs, e1, hk, hnd, hfr, hle⟩ => by
    subst e1
    refine ⟨_, _, ⟨hle, ?_⟩, rfl, rfl⟩
    rw [exV_K]
    exact frz_agg (by exact ⟨.refl _, .refl _, kidsAt.frz e q bs hk hfr, trivial⟩) (by simp [V.one])
end Go.Proofs.Ytdenfjbhkdhlkaa.Lg
