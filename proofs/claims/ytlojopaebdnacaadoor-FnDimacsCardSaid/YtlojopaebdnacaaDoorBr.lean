/- A formula that is being read: its clauses so far and the clause begun lie in blocks of their own, beside the reader's box. -/
import Derived.Test.YtlojopaebdnacaaDoorBu
set_option linter.unusedSimpArgs false
set_option linter.unusedVariables false
namespace Go.Proofs.YtlojopaebdnacaaDoor.Lg
open Go Go.Lib
attribute [local irreducible] SRun DS DRun
variable {Γ : St} {σ σ0 : St}
theorem cup_upd1 {s : St} {b : Nat} {c : List V} (hd : disj s (upd emp b c)) : cup s (upd emp b c) = upd s b c := by
  funext d
  by_cases e : d = b
  · subst e
    rw [upd_same]
    rcases hd d with h | h
    · simp only [cup, h, upd_same]
    · rw [upd_same] at h; cases h
  · rw [upd_ne _ _ e]
    simp only [cup, upd_ne _ _ e]
    cases s d <;> rfl
theorem At.del {es : Nat} {xs : List V} {q : V} (h : At σ es xs q) {b : Nat} (hb : blk q ≠ some b) : At (Lg.del σ b) es xs q := h.to fun d hd => del_ne _ (fun e => hb (by rw [← e]; exact hd))
/-- An append, while a block is read that is apart. -/
theorem AppAt.put {es rb : Nat} {xs c : List V} {q q' : V} {s s' : St} (h : AppAt (del s rb) es xs q q' s') (hc : s rb = some c) (hq : blk q ≠ some rb) (hd : disj s' (upd emp rb c)) : AppAt s es xs q q' (upd s' rb c) ∧ blk q' ≠ some rb := by
  have hn : s' rb = none := by
    rcases hd rb with h | h
    · exact h
    · rw [upd_same] at h; cases h
  have hq' : blk q' ≠ some rb := fun e => by have := h.at_.has e; rw [hn] at this; cases this
  refine ⟨⟨h.at_.upd hq', fun b hb => ?_, fun d h1 h2 => ?_⟩, hq'⟩
  · have e : b ≠ rb := fun e => hq' (by rw [hb, e])
    rcases h.blk_ b hb with h1 | h1
    · exact .inl h1
    · rw [del_ne _ e] at h1; exact .inr h1
  · by_cases e : d = rb
    · subst e; rw [upd_same, hc]
    · rw [upd_ne _ _ e, h.keep d h1 h2, del_ne _ e]
/-- What a reader of formulas has so far. -/
structure DimL (σ0 : St) (rb : Nat) (cls : List (List Int)) (now : List Int) (q : V) (qs : List V) (qn : V) (s : St) : Prop where
  lla : LLA σ0 1 1 pre0 ints cls q qs s
  now : At s 1 (ints now) qn
  nnew : ∀ b, blk qn = some b → σ0 b = none
  nq : Apt qn q
  nqs : ∀ m ∈ qs, Apt m qn
  rq : blk q ≠ some rb
  rqs : ∀ m ∈ qs, blk m ≠ some rb
  rn : blk qn ≠ some rb
  rnew : σ0 rb = none
  le : ∀ b c, σ0 b = some c → s b = some c
section
variable {rb : Nat} {cls : List (List Int)} {now : List Int} {q : V} {qs : List V} {qn : V} {s s' : St}
theorem DimL.box (h : DimL σ0 rb cls now q qs qn s) (c : List V) : DimL σ0 rb cls now q qs qn (upd s rb c) :=
  ⟨h.lla.to (fun b hb => upd_ne _ _ (fun e => h.rq (by rw [hb, e]))) (fun m hm b hb => upd_ne _ _ (fun e => h.rqs m hm (by rw [hb, e]))), h.now.upd h.rn, h.nnew, h.nq, h.nqs, h.rq, h.rqs, h.rn, h.rnew, fun b c' hb => (upd_ne _ _ (fun e => by subst e; rw [h.rnew] at hb; cases hb)).trans (h.le b c' hb)⟩
theorem DimL.mono (h : DimL σ0 rb cls now q qs qn s) (hs : ∀ b c, s b = some c → s' b = some c) : DimL σ0 rb cls now q qs qn s' :=
  ⟨h.lla.mono hs, h.now.mono hs, h.nnew, h.nq, h.nqs, h.rq, h.rqs, h.rn, h.rnew, fun b c hb => hs _ _ (h.le b c hb)⟩
theorem DimL.more (h : DimL σ0 rb cls now q qs qn s) {c : List V} (hr : s rb = some c) {now' : List Int} {qn' : V} (ha : AppAt s 1 (ints now') qn qn' s') : DimL σ0 rb cls now' q qs qn' s' ∧ s' rb = some c := by
  have hdom : ∀ b, s b = none → σ0 b = none := none_of h.le
  have off : ∀ m xs, At s 1 xs m → Apt m qn → Apt m qn' := fun m xs hm hap b hb e => by
    rcases ha.blk_ b e with e2 | e2
    · exact hap b hb e2
    · rw [hm.has hb] at e2; cases e2
  have kq : ∀ m xs, At s 1 xs m → Apt m qn → ∀ b, blk m = some b → s' b = s b := fun m xs hm hap b hb => ha.keep b (hap b hb) (off m xs hm hap b hb)
  have hqa := h.lla.at_
  have hrn : blk qn' ≠ some rb := fun e => by
    rcases ha.blk_ _ e with e2 | e2
    · exact h.rn e2
    · rw [hr] at e2; cases e2
  refine ⟨⟨h.lla.to (kq _ _ hqa h.nq.symm) (fun m hm => ?_), ha.at_, ha.new hdom h.nnew, (off _ _ hqa h.nq.symm).symm, fun m hm => ?_, h.rq, h.rqs, hrn, h.rnew, fun b c hb => ha.get (h.le b c hb) (fun e => by rw [h.nnew b e] at hb; cases hb)⟩, ha.get hr h.rn⟩
  · obtain ⟨a, hm'⟩ := h.lla.rows.has hm
    exact kq _ _ hm' (h.nqs m hm)
  · obtain ⟨a, hm'⟩ := h.lla.rows.has hm
    exact off _ _ hm' (h.nqs m hm)
theorem DimL.push (h : DimL σ0 rb cls now q qs qn s) {c : List V} (hr : s rb = some c) {q' : V} (ha : AppAt s 1 (els pre0 cls qs ++ [qn]) q q' s') {es : Nat} : DimL σ0 rb (cls ++ [now]) [] q' (qs ++ [qn]) (.isl true es []) s' ∧ s' rb = some c := by
  have hL := h.lla.push pre0_ok (a := now) (m := qn) (q' := q') (t := s') h.le h.now h.nnew h.nq h.nqs ha.at_ ha.blk_ ha.keep
  have hrq : blk q' ≠ some rb := fun e => by
    rcases ha.blk_ _ e with e2 | e2
    · exact h.rq e2
    · rw [hr] at e2; cases e2
  refine ⟨⟨hL, ⟨fun x hx => (by cases hx), .inl ⟨rfl, es, rfl⟩⟩, fun b hb => (by cases hb), fun b hb => (by cases hb), fun m hm b hb e => (by cases e), hrq, fun m hm => ?_, fun e => (by cases e), h.rnew, fun b c hb => ha.get (h.le b c hb) (fun e => by rw [h.lla.new b e] at hb; cases hb)⟩, ha.get hr h.rq⟩
  rcases List.mem_append.1 hm with hm | hm
  · exact h.rqs m hm
  · rw [List.mem_singleton.1 hm]; exact h.rn
theorem DimL.start {es es' : Nat} (hb : σ0 rb = none) (c : List V) : DimL σ0 rb [] [] (.isl true es []) [] (.isl true es' []) (upd σ0 rb c) :=
  ⟨LLA.nil, ⟨fun x hx => (by cases hx), .inl ⟨rfl, es', rfl⟩⟩, fun b h => (by cases h), fun b h => (by cases h), fun m hm => (by cases hm), fun e => (by cases e), fun m hm => (by cases hm), fun e => (by cases e), hb, le_upd hb⟩
end
end Go.Proofs.YtlojopaebdnacaaDoor.Lg
/- Formulas read by the program: a line of numbers, a literal. -/
set_option linter.unusedSimpArgs false
set_option linter.unusedVariables false
namespace Go.Proofs.YtlojopaebdnacaaDoor.Lg
open Go Go.Lib
attribute [local irreducible] SRun DS DRun
variable {Γ : St} {σ σ0 : St}
/-- The program's reader. -/
def boxI (t : List UInt8) (vars most : Int) (q qn : V) (begun : Bool) : List V := [.str t, .int .i64 vars, q, .int .i64 most, qn, .bool begun]
theorem dHead_num {ws : List Wd} (e0 : textW ws 0 = [112]) (e1 : ws.length = 4) (e2 : textW ws 1 = [99, 110, 102]) : headC ws = if numP (textW ws 2) = none ∨ (numP (textW ws 2)).getD 0 < 0 then (4, placeW ws 2)
    else if numP (textW ws 3) = none ∨ (numP (textW ws 3)).getD 0 < 0 then (4, placeW ws 3)
    else if 40 < (numP (textW ws 2)).getD 0 then (5, placeW ws 2)
    else if 300 < (numP (textW ws 3)).getD 0 then (5, placeW ws 3)
    else (0, 0) := by
  unfold headC
  rw [if_neg (by rintro (h | h | h); exact h e0; exact h e1; exact h e2)]
set_option maxHeartbeats 4000000 in
theorem dHead_ok (hg : NumG Γ) {ws : List Wd} (hne : 0 < ws.length) (hw : WdsOK ws) {rb : Nat} {t : List UInt8} {v0 m0 : Int} {q qn : V} {bg : Bool} (hq1 : q.one = true ∧ q.cells = [q]) (hb : σ rb = some (boxI t v0 m0 q qn bg)) :
    ACalls Tryd.prog Γ 67 [.ptr rb 0, .isl false 2 (wdsV ws)] σ fun r s => r = .tup [.int .i64 (headC ws).1, .int .i64 (headC ws).2] ∧ (((headC ws).1 ≠ 0 ∧ s = σ) ∨ ((headC ws).1 = 0 ∧ (0 ≤ varsW ws ∧ varsW ws ≤ 40) ∧ (0 ≤ mostW ws ∧ mostW ws ≤ 300) ∧ s = upd σ rb (boxI t (varsW ws) (mostW ws) q qn bg))) := by
  have hwn := wdsV_len ws
  unfold boxI at hb
  generalize hH : headC ws = H
  by_cases e0 : textW ws 0 = [112]
  case' neg =>
    have b0 : (textW ws 0 == [112]) = false := by simpa using e0
    unfold headC at hH
    rw [if_pos (.inl e0)] at hH
    refine acalls_W c67_ok rfl ?_
    simp (disch := omega) only [c67, b0, go_sem]
    refine W_drawW ?_
    simp (disch := omega) only [go_sem]
    exact W_retR c67_ok rfl ⟨by rw [← hH]; rfl, .inl ⟨(by rw [← hH]; intro h; cases h), rfl⟩⟩
  have b0 : (textW ws 0 == [112]) = true := by simpa using e0
  by_cases e1 : ws.length = 4
  case' neg =>
    have b1 : decide (((ws.length : Nat) : Int) = 4) = false := decide_eq_false (by omega)
    unfold headC at hH
    rw [if_pos (.inr (.inl e1))] at hH
    refine acalls_W c67_ok rfl ?_
    simp (disch := omega) only [c67, b0, b1, hwn, go_sem]
    refine W_drawW ?_
    simp (disch := omega) only [go_sem]
    exact W_retR c67_ok rfl ⟨by rw [← hH]; rfl, .inl ⟨(by rw [← hH]; intro h; cases h), rfl⟩⟩
  have b1 : decide (((ws.length : Nat) : Int) = 4) = true := decide_eq_true (by omega)
  have b1' : ∀ i : Nat, i < 4 → i < ws.length := fun i hi => by omega
  by_cases e2 : textW ws 1 = [99, 110, 102]
  case' neg =>
    have b2 : (textW ws 1 == [99, 110, 102]) = false := by simpa using e2
    unfold headC at hH
    rw [if_pos (.inr (.inr e2))] at hH
    refine acalls_W c67_ok rfl ?_
    simp (disch := omega) only [c67, b0, b1, hwn, b2, go_sem]
    refine W_drawW ?_
    simp (disch := omega) only [go_sem]
    exact W_retR c67_ok rfl ⟨by rw [← hH]; rfl, .inl ⟨(by rw [← hH]; intro h; cases h), rfl⟩⟩
  have b2 : (textW ws 1 == [99, 110, 102]) = true := by simpa using e2
  rw [dHead_num e0 e1 e2] at hH
  refine acalls_W c67_ok rfl ?_
  simp (disch := omega) only [c67, b0, b1, hwn, b2, go_sem]
  refine SRun.callQ (number_ok hg (by have := hw.text 2; omega)) ⟨[], rfl, rfl⟩ rfl ?_
  rintro _ _ ⟨rfl, n2, rfl, hn2⟩
  simp (disch := omega) only [go_sem]
  refine SRun.callQ (number_ok hg (by have := hw.text 3; omega)) ⟨[], rfl, rfl⟩ rfl ?_
  rintro _ _ ⟨rfl, n3, rfl, hn3⟩
  unfold varsW mostW
  cases hP : numP (textW ws 2) with
  | none =>
    rw [hP, if_pos (.inl rfl)] at hH
    have hs : (none : Option Int).isSome = false := rfl
    simp (disch := omega) only [hs, go_sem]
    refine W_drawW ?_
    simp (disch := omega) only [go_sem]
    exact W_retR c67_ok rfl ⟨by rw [← hH]; rfl, .inl ⟨(by rw [← hH]; intro h; cases h), rfl⟩⟩
  | some v =>
    obtain rfl := hn2 v hP
    have hs : (some n2 : Option Int).isSome = true := rfl
    rw [hP] at hH
    by_cases c0 : n2 < 0
    · rw [if_pos (.inr c0)] at hH
      have d0 : decide (n2 < 0) = true := decide_eq_true c0
      simp (disch := omega) only [hs, d0, go_sem]
      refine W_drawW ?_
      simp (disch := omega) only [go_sem]
      exact W_retR c67_ok rfl ⟨by rw [← hH]; rfl, .inl ⟨(by rw [← hH]; intro h; cases h), rfl⟩⟩
    rw [if_neg (by rintro (h | h); cases h; exact c0 h)] at hH
    have d0 : decide (n2 < 0) = false := decide_eq_false c0
    cases hP3 : numP (textW ws 3) with
    | none =>
      rw [hP3, if_pos (.inl rfl)] at hH
      have hs3 : (none : Option Int).isSome = false := rfl
      simp (disch := omega) only [hs, d0, hs3, go_sem]
      refine W_drawW ?_
      simp (disch := omega) only [go_sem]
      exact W_retR c67_ok rfl ⟨by rw [← hH]; rfl, .inl ⟨(by rw [← hH]; intro h; cases h), rfl⟩⟩
    | some v3 =>
      obtain rfl := hn3 v3 hP3
      have hs3 : (some n3 : Option Int).isSome = true := rfl
      rw [hP3] at hH
      by_cases c3 : n3 < 0
      · rw [if_pos (.inr c3)] at hH
        have d3 : decide (n3 < 0) = true := decide_eq_true c3
        simp (disch := omega) only [hs, d0, hs3, d3, go_sem]
        refine W_drawW ?_
        simp (disch := omega) only [go_sem]
        exact W_retR c67_ok rfl ⟨by rw [← hH]; rfl, .inl ⟨(by rw [← hH]; intro h; cases h), rfl⟩⟩
      rw [if_neg (by rintro (h | h); cases h; exact c3 h)] at hH
      simp only [Option.getD_some] at hH
      have d3 : decide (n3 < 0) = false := decide_eq_false c3
      by_cases c4 : 40 < n2
      · rw [if_pos c4] at hH
        have d4 : decide (n2 > 40) = true := decide_eq_true c4
        simp (disch := omega) only [hs, d0, hs3, d3, d4, go_sem]
        refine W_drawW ?_
        simp (disch := omega) only [go_sem]
        exact W_retR c67_ok rfl ⟨by rw [← hH]; rfl, .inl ⟨(by rw [← hH]; intro h; cases h), rfl⟩⟩
      rw [if_neg c4] at hH
      have d4 : decide (n2 > 40) = false := decide_eq_false c4
      by_cases c5 : 300 < n3
      · rw [if_pos c5] at hH
        have d5 : decide (n3 > 300) = true := decide_eq_true c5
        simp (disch := omega) only [hs, d0, hs3, d3, d4, d5, go_sem]
        refine W_drawW ?_
        simp (disch := omega) only [go_sem]
        exact W_retR c67_ok rfl ⟨by rw [← hH]; rfl, .inl ⟨(by rw [← hH]; intro h; cases h), rfl⟩⟩
      rw [if_neg c5] at hH
      have d5 : decide (n3 > 300) = false := decide_eq_false c5
      simp (disch := omega) only [hs, d0, hs3, d3, d4, d5, hb, upd_same, upd_upd, go_sem]
      exact W_retR c67_ok rfl ⟨by rw [← hH]; rfl, .inr ⟨by rw [← hH], ⟨by show 0 ≤ n2; omega, by show n2 ≤ 40; omega⟩, ⟨by show 0 ≤ n3; omega, by show n3 ≤ 300; omega⟩, rfl⟩⟩
set_option maxHeartbeats 4000000 in
theorem dLit_ok (hg : NumG Γ) {w : List UInt8} (hw : w.length ≤ 1000000000) {rb : Nat} {t : List UInt8} {vars most : Int} (hv : 0 ≤ vars ∧ vars ≤ 40) (hm : most ≤ 300) {cls : List (List Int)} {now : List Int} {q qn : V} {qs : List V} {bg : Bool} (hc : (cls.length : Int) ≤ most) (hn : now.length ≤ 12)
    (h : DimL σ0 rb cls now q qs qn σ) (hb : σ rb = some (boxI t vars most q qn bg)) :
    ACalls Tryd.prog Γ 68 [.ptr rb 0, .str w] σ fun r s => r = .int .i64 (litC vars most (cls, now) w) ∧ ((litC vars most (cls, now) w ≠ 0 ∧ s = σ) ∨ (litC vars most (cls, now) w = 0 ∧ ∃ q' qs' qn', DimL σ0 rb (litN (cls, now) w).1 (litN (cls, now) w).2 q' qs' qn' s ∧ s rb = some (boxI t vars most q' qn' (decide ((litN (cls, now) w).2 ≠ []))))) := by
  have hel : (els pre0 cls qs).length = cls.length := els_len h.lla.rows.len
  unfold boxI at *
  generalize hC : litC vars most (cls, now) w = C
  generalize hN : litN (cls, now) w = N
  unfold litC at hC
  unfold litN at hN
  refine acalls_W c68_ok rfl ?_
  simp (disch := omega) only [c68, go_sem]
  refine SRun.callQ (number_ok hg (by omega)) ⟨[], rfl, rfl⟩ rfl ?_
  rintro _ s ⟨hss, n, rfl, hn1⟩
  obtain rfl := hss.symm
  cases hP : numP w with
  | none =>
    rw [hP] at hC
    have hs : (none : Option Int).isSome = false := rfl
    simp (disch := omega) only [hs, go_sem]
    exact W_retR c68_ok rfl ⟨by rw [← hC]; rfl, .inl ⟨(by rw [← hC]; intro h; cases h), rfl⟩⟩
  | some v =>
    obtain rfl := hn1 v hP
    have hs : (some n : Option Int).isSome = true := rfl
    rw [hP] at hC hN
    simp only at hC hN
    by_cases c7 : (cls.length : Int) = most
    · rw [if_pos c7] at hC
      have d7 : decide (((els pre0 cls qs).length : Int) = most) = true := decide_eq_true (by omega)
      simp (disch := omega) only [hs, go_sem]
      refine W_drawW ?_
      simp (disch := omega) only [hb, stepK_len_at h.lla.at_, d7, go_sem]
      exact W_retR c68_ok rfl ⟨by rw [← hC]; rfl, .inl ⟨(by rw [← hC]; intro h; cases h), rfl⟩⟩
    rw [if_neg c7] at hC
    have d7 : decide (((els pre0 cls qs).length : Int) = most) = false := decide_eq_false (by omega)
    by_cases c0 : n = 0
    · rw [if_pos c0] at hC hN
      have d0 : decide (n = 0) = true := decide_eq_true c0
      simp (disch := omega) only [hs, go_sem]
      refine W_drawW ?_
      simp (disch := omega) only [hb, stepK_len_at h.lla.at_, d7, d0, go_sem]
      refine W_drawW ?_
      refine DRun.mixR hb rfl ?_
      have hy2 : ∀ y ∈ [qn], y.cells.length = 1 ∧ ∀ c ∈ y.cells, c.one = true := by
        intro y hy
        rw [List.mem_singleton.1 hy, h.now.cells]
        exact ⟨rfl, fun c hc => by rw [List.mem_singleton.1 hc]; exact h.now.one⟩
      have hfit : ((els pre0 cls qs).length + [qn].length) * 24 ≤ 140737488355328 := by rw [hel]; simp only [List.length_singleton]; omega
      simp (disch := omega) only [upd_same, go_sem]
      refine ⟨hy2 qn (List.mem_singleton.2 rfl), ?_⟩
      refine DS.wrQ (WrF.appAt (xs := els pre0 cls qs) (ys := [qn]) ?_ ?_ rfl hy2 (by exact hfit)) rfl ?_
      · exact h.lla.at_.del h.rq
      · exact src_isl
      rintro q' s' hA hdj
      have hcu := cup_upd1 hdj
      obtain ⟨hA2, hrq⟩ := hA.put hb h.rq hdj
      obtain ⟨hD, hb2⟩ := h.push (es := 0) hb hA2
      simp (disch := omega) only [hcu, hA2.at_.cells, hA2.at_.one, go_sem]
      have hD2 := hD.box [.str t, .int .i64 vars, q', .int .i64 most, .isl true 0 [], .bool false]
      rw [upd_upd] at hD2
      exact W_retR c68_ok rfl ⟨by rw [← hC]; rfl, .inr ⟨by rw [← hC], q', qs ++ [qn], .isl true 0 [], by rw [← hN]; exact hD2, by rw [← hN]; exact upd_same _ _ _⟩⟩
    rw [if_neg c0] at hC hN
    have d0 : decide (n = 0) = false := decide_eq_false c0
    simp (disch := omega) only [hs, go_sem]
    refine W_drawW ?_
    simp (disch := omega) only [hb, stepK_len_at h.lla.at_, d7, d0, go_sem]
    refine SRun.callR (isLiteral_okT n vars ⟨hv.1, by omega⟩) ⟨[], rfl, rfl⟩ rfl ?_
    by_cases hl : -vars ≤ n ∧ n ≤ vars
    case' neg =>
      have dl : (!litOK40 vars n) = true := by
        cases hq : litOK40 vars n
        · rfl
        · exact absurd (litOK40_iff.1 hq).2 hl
      rw [if_pos hl] at hC
      simp (disch := omega) only [dl, go_sem]
      exact W_retR c68_ok rfl ⟨by rw [← hC]; rfl, .inl ⟨(by rw [← hC]; intro h; cases h), rfl⟩⟩
    have dl : (!litOK40 vars n) = false := by rw [litOK40_iff.2 ⟨c0, hl⟩]; rfl
    rw [if_neg (fun h => h hl)] at hC
    by_cases h12 : now.length = 12
    case' pos =>
      have d12 : decide (((ints now).length : Int) = 12) = true := decide_eq_true (by rw [ints_len]; omega)
      rw [if_pos h12] at hC
      simp (disch := omega) only [dl, hb, stepW_len_at h.now, d12, go_sem]
      exact W_retR c68_ok rfl ⟨by rw [← hC]; rfl, .inl ⟨(by rw [← hC]; intro h; cases h), rfl⟩⟩
    have d12 : decide (((ints now).length : Int) = 12) = false := decide_eq_false (by rw [ints_len]; omega)
    rw [if_neg h12] at hC
    simp (disch := omega) only [dl, hb, stepW_len_at h.now, d12, go_sem]
    refine SRun.appAt (ys := ints [n]) h.now rfl rfl (ints_ok _) (by simp only [ints_len, List.length_singleton]; omega) ?_
    intro qn' s' hA
    have hA' : AppAt σ 1 (ints (now ++ [n])) qn qn' s' := by have := hA; rwa [show ints now ++ ints [n] = ints (now ++ [n]) by simp [ints]] at this
    obtain ⟨hD, hb2⟩ := h.more hb hA'
    simp (disch := omega) only [hb2, hA'.at_.cells, hA'.at_.one, go_sem]
    have hD2 := hD.box [.str t, .int .i64 vars, q, .int .i64 most, qn', .bool true]
    have hne : (decide ¬ (now ++ [n] = [])) = true := by simp
    exact W_retR c68_ok rfl ⟨by rw [← hC]; rfl, .inr ⟨by rw [← hC], q, qs, qn', by rw [← hN]; exact hD2, by rw [← hN]; simp only [hne]; exact upd_same _ _ _⟩⟩
end Go.Proofs.YtlojopaebdnacaaDoor.Lg
/- Formulas read by the program. -/
set_option linter.unusedSimpArgs false
set_option linter.unusedVariables false
namespace Go.Proofs.YtlojopaebdnacaaDoor.Lg
open Go Go.Lib
attribute [local irreducible] SRun DS DRun
variable {Γ : St} {σ σ0 : St}
/-- What the program has read, and what the words that are left make of it. -/
def RdI (σ0 : St) (rb : Nat) (t : List UInt8) (vars most : Int) (ws : List Wd) (R : Int × Int × (List (List Int) × List Int)) (s : St) : Prop :=
  ∃ cls now q qs qn, DimL σ0 rb cls now q qs qn s ∧ s rb = some (boxI t vars most q qn (decide (now ≠ []))) ∧ (cls.length : Int) ≤ most ∧ now.length ≤ 12 ∧ litsP vars most ws (cls, now) = R
theorem RdI.mono {rb : Nat} {t : List UInt8} {vars most : Int} {ws : List Wd} {R : Int × Int × (List (List Int) × List Int)} {s s' : St} (h : RdI σ0 rb t vars most ws R s) (hs : ∀ b c, s b = some c → s' b = some c) : RdI σ0 rb t vars most ws R s' := by
  obtain ⟨cls, now, q, qs, qn, h1, h2, h3, h4, h5⟩ := h
  exact ⟨cls, now, q, qs, qn, h1.mono hs, hs _ _ h2, h3, h4, h5⟩
theorem litN_ok {vars most : Int} {cls : List (List Int)} {now : List Int} {w : List UInt8} (hc : (cls.length : Int) ≤ most) (hn : now.length ≤ 12) (h : litC vars most (cls, now) w = 0) : ((litN (cls, now) w).1.length : Int) ≤ most ∧ (litN (cls, now) w).2.length ≤ 12 := by
  unfold litC at h
  unfold litN
  cases hP : numP w with
  | none => rw [hP] at h; cases h
  | some n =>
    rw [hP] at h
    simp only at h ⊢
    by_cases c7 : (cls.length : Int) = most
    · rw [if_pos c7] at h; cases h
    rw [if_neg c7] at h
    by_cases c0 : n = 0
    · rw [if_pos c0]; exact ⟨by simp; omega, by simp⟩
    · rw [if_neg c0] at h ⊢
      by_cases hl : -vars ≤ n ∧ n ≤ vars
      · rw [if_neg (fun h => h hl)] at h
        by_cases h12 : now.length = 12
        · rw [if_pos h12] at h; cases h
        · exact ⟨hc, by simp; omega⟩
      · rw [if_pos hl] at h; cases h
set_option maxHeartbeats 4000000 in
theorem dRead_own (hg : NumG Γ) {t : List UInt8} (hl : t.length ≤ 10000000) {rb : Nat} {q qn : V} (h : DimL σ0 rb [] [] q [] qn σ) (hb : σ rb = some (boxI t 0 0 q qn false)) :
    ACalls Tryd.prog Γ 35 [.ptr rb 0] σ fun r s => r = .tup [.int .i64 (dimL t.length (linesP 0 (cutP 10 t))).code, .int .i64 (dimL t.length (linesP 0 (cutP 10 t))).place] ∧ (∀ b c, σ0 b = some c → s b = some c) ∧
      ((dimL t.length (linesP 0 (cutP 10 t))).code = 0 → ∃ q qs qn most bg, DimL σ0 rb (dimL t.length (linesP 0 (cutP 10 t))).cls [] q qs qn s ∧ s rb = some (boxI t (dimL t.length (linesP 0 (cutP 10 t))).vars most q qn bg)) := by
  have hlen2 : ∀ x y : V, [x, y].take 2 = [x, y] := fun _ _ => rfl
  have hF := formulaLines_ok (Γ := Γ) (σ := σ) hg (t := t) (by omega)
  have hin := linesP_in (n := 0) (cutP 10 t) 0 (fun l h => by have := cut_mem h; omega)
  have hLl : (linesP 0 (cutP 10 t)).length ≤ t.length + 1 := Nat.le_trans (linesP_len _ _) (cutGo_len _ _ _)
  generalize linesP 0 (cutP 10 t) = L at *
  have hLn := linesV_len L
  generalize hD : dimL t.length L = D
  have hb' := hb
  unfold boxI at hb'
  refine acalls_W c35_ok rfl ?_
  simp (disch := omega) only [c35, hb', go_sem]
  refine SRun.callR hF ⟨[], rfl, rfl⟩ rfl ?_
  cases hL0 : L with
  | nil =>
    subst hL0
    have d0 : decide (((linesV []).length : Int) = 0) = true := rfl
    simp (disch := omega) only [d0, go_sem]
    refine W_drawW ?_
    simp (disch := omega) only [hb', go_sem]
    simp only [dimL] at hD
    exact W_retR c35_ok rfl ⟨by rw [← hD]; rfl, h.le, fun h => by rw [← hD] at h; cases h⟩
  | cons l0 M =>
    rw [hL0] at hD
    have d0 : decide (((linesV (l0 :: M)).length : Int) = 0) = false := decide_eq_false (by rw [linesV_len]; simp; omega)
    have hget : (l0 :: M).getD 0 ([], 0) = l0 := rfl
    have hpos : 0 < (l0 :: M).length := by simp
    obtain ⟨hw0, hwk0⟩ := hin l0 (by rw [hL0]; simp)
    have hMin : ∀ l ∈ M, 0 < l.1.length ∧ WdsOK l.1 := fun l hl => hin l (by rw [hL0]; simp [hl])
    have hMl : M.length ≤ 100000000 := by rw [hL0] at hLl; simp at hLl; omega
    simp (disch := omega) only [d0, hget, go_sem]
    refine SRun.callQ (dHead_ok hg hw0 hwk0 ⟨h.lla.at_.one, h.lla.at_.cells⟩ hb) ⟨[], rfl, rfl⟩ rfl ?_
    rintro r s ⟨rfl, hs⟩
    simp only [dimL] at hD
    rcases hs with ⟨hc, hs⟩ | ⟨hc, hv, hm, hs⟩
    · rw [if_pos hc] at hD
      have d1 : (decide ¬ (headC l0.1).1 = 0) = true := decide_eq_true hc
      simp (disch := omega) only [d1, go_sem]
      exact W_retR c35_ok rfl ⟨by rw [← hD]; rfl, by rw [hs]; exact h.le, fun h => absurd (by rw [← hD] at h; exact h) hc⟩
    rw [if_neg (fun h => h hc)] at hD
    have d1 : (decide ¬ (headC l0.1).1 = 0) = false := by rw [hc]; rfl
    have h1 := h.box (boxI t (varsW l0.1) (mostW l0.1) q qn false)
    have g1 : s rb = some (boxI t (varsW l0.1) (mostW l0.1) q qn false) := by rw [hs]; exact upd_same _ _ _
    rw [← hs] at h1
    clear hs hb hb' h hF
    generalize varsW l0.1 = vars at *
    generalize mostW l0.1 = most at *
    have hge : 1 ≤ ((linesV (l0 :: M)).length : Int) := by rw [linesV_len]; simp only [List.length_cons]; omega
    have hsl : ((linesV (l0 :: M)).drop 1).take (((linesV (l0 :: M)).length : Int) - 1).toNat = linesV M := by
      rw [List.take_of_length_le (by rw [List.length_drop, linesV_len]; simp)]; rfl
    have hMn := linesV_len M
    have hlc : (l0 :: M).length = M.length + 1 := rfl
    generalize hR : litsP vars most (M.flatMap (·.1)) ([], []) = R at *
    simp (disch := omega) only [d1, hge, hsl, hMn, go_sem]
    refine W_loopC (α := Nat × St) (fun a => a.1 ≤ M.length ∧ RdI σ0 rb t vars most ((M.drop a.1).flatMap (·.1)) R a.2) (fun a => [(0, .ptr rb 0), (39, .isl false 2 (linesV M)), (40, .int .i64 M.length), (41, .int .i64 (a.1 : Nat))]) (fun a => a.2) (fun a => M.length - a.1) (0, s) ⟨by simp, [], [], q, [], qn, h1, g1, by simpa using hm.1, by simp, hR⟩ (by simp (disch := omega) only [subT, Int.natCast_add, Int.cast_ofNat_Int, go_sem] <;> (repeat' apply And.intro) <;> first | rfl | (congr 1; omega) | assumption) rfl ?_
    clear g1 h1
    rintro ⟨k, s⟩ ⟨hk, hI⟩ ih
    dsimp only at hk hI
    simp (disch := omega) only [hMn, go_sem]
    first | refine iteW_dec (fun hq => ?_) (fun hq => ?_) | refine iteW_of (fun hq => ?_) (fun hq => ?_)
    · have hk' : k < M.length := by omega
      rw [dropLn hk', List.flatMap_cons] at hI
      obtain ⟨hwp, hwk⟩ := hMin _ (getD_mem ([], 0) hk')
      generalize hrest : (M.drop (k + 1)).flatMap (·.1) = rest at *
      simp (disch := omega) only [hMn, go_sem]
      generalize M.getD k ([], 0) = ln at *
      obtain ⟨ws, e⟩ := ln
      dsimp only at hwp hwk hI
      have hwn := wdsV_len ws
      have hwb := hwk.1
      refine SRun.allocR ?_
      intro b8 hb8
      have hI := hI.mono (le_upd (cs := [V.isl false 2 (wdsV ws), V.int IntKind.i64 (e : Int)]) hb8)
      simp (disch := omega) only [upd_same, upd_upd, hlen2, hwn, go_sem]
      generalize upd s b8 [V.isl false 2 (wdsV ws), V.int IntKind.i64 (e : Int)] = s at *
      refine W_loopC (α := Nat × St) (fun a => a.1 ≤ ws.length ∧ RdI σ0 rb t vars most (ws.drop a.1 ++ rest) R a.2) (fun a => [(0, .ptr rb 0), (39, .isl false 2 (linesV M)), (40, .int .i64 M.length), (41, .int .i64 (k : Nat)), (46, .isl false 2 (wdsV ws)), (47, .int .i64 ws.length), (48, .int .i64 (a.1 : Nat))]) (fun a => a.2) (fun a => ws.length - a.1) (0, s) ⟨by simp, hI⟩ (by simp (disch := omega) only [subT, Int.natCast_add, Int.cast_ofNat_Int, go_sem] <;> (repeat' apply And.intro) <;> first | rfl | (congr 1; omega) | assumption) rfl ?_
      clear hI
      rintro ⟨i, s⟩ ⟨hi, hI⟩ ih2
      dsimp only at hi hI
      simp (disch := omega) only [hwn, go_sem]
      first | refine iteW_dec (fun hq2 => ?_) (fun hq2 => ?_) | refine iteW_of (fun hq2 => ?_) (fun hq2 => ?_)
      · have hi' : i < ws.length := by omega
        rw [dropW hi', List.cons_append] at hI
        simp (disch := omega) only [hwn, go_sem]
        refine SRun.allocR ?_
        intro b10 hb10
        have hI := hI.mono (le_upd (cs := [V.str (textW ws i), V.int .i64 (placeW ws i)]) hb10)
        have g10 := upd_same s b10 [V.str (textW ws i), V.int .i64 (placeW ws i)]
        simp (disch := omega) only [upd_same, upd_upd, hlen2, go_sem]
        generalize upd s b10 [V.str (textW ws i), V.int .i64 (placeW ws i)] = s at *
        obtain ⟨cls, now, q, qs, qn, h1, h2, h3, h4, h5⟩ := hI
        simp only [litsP] at h5
        refine SRun.callQ (dLit_ok hg (by have := hwk.text i; omega) hv hm.2 h3 h4 h1 h2) ⟨[], rfl, rfl⟩ rfl ?_
        rintro r s2 ⟨rfl, hs⟩
        rcases hs with ⟨hc, hs⟩ | ⟨hc, q2, qs2, qn2, h1', h2'⟩
        · rw [if_neg hc, placeW_nat] at h5
          have dC : (decide ¬ litC vars most (cls, now) (textW ws i) = 0) = true := decide_eq_true hc
          have g10' : s2 b10 = some [V.str (textW ws i), V.int .i64 (placeW ws i)] := by rw [hs]; exact g10
          simp (disch := omega) only [dC, go_sem]
          refine W_drawW ?_
          simp (disch := omega) only [g10', go_sem]
          have hDD : D = .bad (litC vars most (cls, now) (textW ws i)) (placeW ws i) := by
            rw [← hD, ← h5]; exact if_pos hc
          exact W_retR c35_ok rfl ⟨by rw [hDD]; rfl, by rw [hs]; exact h1.le, fun h => absurd (by rw [hDD] at h; exact h) hc⟩
        · rw [if_pos hc] at h5
          have dC : (decide ¬ litC vars most (cls, now) (textW ws i) = 0) = false := by rw [hc]; rfl
          obtain ⟨n1, n2⟩ := litN_ok h3 h4 hc
          simp (disch := omega) only [dC, go_sem]
          exact ih2 (i + 1, s2) _ _ ⟨by simp only; omega, _, _, q2, qs2, qn2, h1', h2', n1, n2, h5⟩ (by simp only; omega) (by simp (disch := omega) only [subT, Int.natCast_add, Int.cast_ofNat_Int, go_sem] <;> (repeat' apply And.intro) <;> first | rfl | (congr 1; omega) | assumption) rfl
      · obtain rfl : i = ws.length := by omega
        rw [List.drop_length, List.nil_append] at hI
        simp (disch := omega) only [go_sem]
        exact ih (k + 1, s) _ _ ⟨by simp only; omega, by rw [hrest]; exact hI⟩ (by simp only; omega) (by simp (disch := omega) only [subT, Int.natCast_add, Int.cast_ofNat_Int, go_sem] <;> (repeat' apply And.intro) <;> first | rfl | (congr 1; omega) | assumption) rfl
    · obtain rfl : k = M.length := by omega
      rw [List.drop_length] at hI
      obtain ⟨cls, now, q, qs, qn, h1, h2, h3, h4, h5⟩ := hI
      simp only [List.flatMap_nil, litsP] at h5
      rw [← h5] at hD
      have hel : (els pre0 cls qs).length = cls.length := els_len h1.lla.rows.len
      have h2' := h2
      unfold boxI at h2'
      simp only [dimEnd] at hD
      rw [if_neg (by simp)] at hD
      by_cases hnow : now = []
      · subst hnow
        have db : (decide ¬ (([] : List Int) = [])) = false := rfl
        have db2 : decide ([] ≠ ([] : List Int)) = false := rfl
        rw [db2] at h2'
        by_cases hlt : (cls.length : Int) < most
        · have dl : decide (((els pre0 cls qs).length : Int) < most) = true := decide_eq_true (by omega)
          rw [if_pos (.inr hlt)] at hD
          simp (disch := omega) only [go_sem]
          refine W_drawW ?_
          simp (disch := omega) only [h2', stepK_len_at h1.lla.at_, dl, go_sem]
          refine W_drawW ?_
          simp (disch := omega) only [h2', go_sem]
          exact W_retR c35_ok rfl ⟨by rw [← hD]; rfl, h1.le, fun h => by rw [← hD] at h; cases h⟩
        · have dl : decide (((els pre0 cls qs).length : Int) < most) = false := decide_eq_false (by omega)
          rw [if_neg (by rintro (h | h); exact h rfl; exact hlt h)] at hD
          simp (disch := omega) only [go_sem]
          refine W_drawW ?_
          simp (disch := omega) only [h2', stepK_len_at h1.lla.at_, dl, go_sem]
          exact W_retR c35_ok rfl ⟨by rw [← hD]; rfl, h1.le, fun _ => by rw [← hD]; exact ⟨q, qs, qn, most, _, h1, h2⟩⟩
      · have db : decide (now ≠ []) = true := decide_eq_true hnow
        rw [db] at h2'
        rw [if_pos (.inl hnow)] at hD
        simp (disch := omega) only [go_sem]
        refine W_drawW ?_
        simp (disch := omega) only [h2', stepK_len_at h1.lla.at_, go_sem]
        refine W_drawW ?_
        simp (disch := omega) only [h2', go_sem]
        exact W_retR c35_ok rfl ⟨by rw [← hD]; rfl, h1.le, fun h => by rw [← hD] at h; cases h⟩
theorem dimEnd_both (vars most : Int) (len : Nat) (R : Int × Int × (List (List Int) × List Int)) : ((dimEnd vars most len R).code = 0 → (dimEnd vars most len R).place = 0) ∧ ((dimEnd vars most len R).code ≠ 0 → dimEnd vars most len R = .bad (dimEnd vars most len R).code (dimEnd vars most len R).place) := by
  unfold dimEnd
  split
  · rename_i h; exact ⟨fun h2 => absurd h2 h, fun _ => rfl⟩
  · split
    · exact ⟨fun h2 => (by cases h2), fun _ => rfl⟩
    · exact ⟨fun _ => rfl, fun h => absurd rfl h⟩
theorem dimL_both (len : Nat) (L : List (List Wd × Nat)) : ((dimL len L).code = 0 → (dimL len L).place = 0) ∧ ((dimL len L).code ≠ 0 → dimL len L = .bad (dimL len L).code (dimL len L).place) := by
  unfold dimL
  split
  · exact ⟨fun h2 => (by cases h2), fun _ => rfl⟩
  · split
    · rename_i h; exact ⟨fun h2 => absurd h2 h, fun _ => rfl⟩
    · exact dimEnd_both _ _ _ _
theorem dimL_place (len : Nat) (L : List (List Wd × Nat)) (h : (dimL len L).code = 0) : (dimL len L).place = 0 := (dimL_both len L).1 h
theorem dimL_bad (len : Nat) (L : List (List Wd × Nat)) (h : (dimL len L).code ≠ 0) : dimL len L = .bad (dimL len L).code (dimL len L).place := (dimL_both len L).2 h
set_option maxHeartbeats 1000000 in
theorem ReadDimacs_own (hg : NumG Γ) {t : List UInt8} (hl : t.length ≤ 10000000) :
    ACalls Tryd.prog Γ 10 [.str t] σ fun r s => (∀ b c, σ b = some c → s b = some c) ∧ ∃ q qs, r = .tup [.agg [.int .i64 (dimP t).vars, q], .int .i64 (dimP t).code, .int .i64 (dimP t).place] ∧ LLA σ 1 1 pre0 ints (dimP t).cls q qs s := by
  generalize hR : dimP t = R
  unfold dimP at hR
  refine acalls_W c10_ok rfl ?_
  simp (disch := omega) only [c10, go_sem]
  refine SRun.allocR ?_
  intro b2 hb2
  simp (disch := omega) only [go_sem]
  first | refine iteW_dec (fun h0 => ?_) (fun h0 => ?_) | refine iteW_of (fun h0 => ?_) (fun h0 => ?_)
  · rw [if_pos (by omega)] at hR
    subst hR
    simp (disch := omega) only [upd_same, upd_upd, go_sem]
    have gz := upd_same σ b2 [.int .i64 0, .isl true 0 []]
    exact W_retC c10_ok (resV_C3 rfl gz rfl) (Conv.refl _ _) ⟨le_upd hb2, .isl true 0 [], [], rfl, LLA.nil⟩
  rw [if_neg (by omega)] at hR
  have hle0 : ∀ b c, σ b = some c → upd σ b2 [.int .i64 0, .isl true 0 []] b = some c := le_upd hb2
  have g2 := upd_same σ b2 [.int .i64 0, .isl true 0 []]
  generalize upd σ b2 [.int .i64 0, .isl true 0 []] = s0 at *
  have out : ∀ (s : St) (c : List V), (∀ b c, s0 b = some c → s b = some c) → ∀ b x, σ b = some x → upd s b2 c b = some x := fun s c h b x hb => (upd_ne _ _ (fun e => by subst e; rw [hb2] at hb; cases hb)).trans (h _ _ (hle0 _ _ hb))
  simp (disch := omega) only [go_sem]
  refine SRun.boxR (by simp [ev, look, V.cells, V.one]) ?_
  intro rb hrb
  have h1 := DimL.start (es := 0) (es' := 0) hrb (boxI t 0 0 (.isl true 0 []) (.isl true 0 []) false)
  have g1 := upd_same s0 rb (boxI t 0 0 (.isl true 0 []) (.isl true 0 []) false)
  have e1 : upd s0 rb (boxI t 0 0 (.isl true 0 []) (.isl true 0 []) false) = upd s0 rb [.str t, .int .i64 0, .isl true 0 [], .int .i64 0, .isl true 0 [], .bool false] := rfl
  rw [e1] at h1 g1
  simp (disch := omega) only [go_sem]
  generalize upd s0 rb [.str t, .int .i64 0, .isl true 0 [], .int .i64 0, .isl true 0 [], .bool false] = s1 at *
  refine SRun.callQ (dRead_own hg hl h1 g1) ⟨[], rfl, rfl⟩ rfl ?_
  rw [hR]
  rintro r s ⟨rfl, hle, hok⟩
  have g2' := hle _ _ g2
  by_cases hc : R.code = 0
  · have d1 : (decide ¬ R.code = 0) = false := by rw [hc]; rfl
    obtain ⟨q, qs, qn, most, bg, hD, hb⟩ := hok hc
    have hb' := hb
    unfold boxI at hb'
    have qb : blk q ≠ some b2 := fun e => by rw [hD.lla.new _ e] at g2; cases g2
    have hA : LLA σ 1 1 pre0 ints R.cls q qs (upd s b2 [.int .i64 R.vars, q]) := (hD.lla.to (fun b hb => upd_ne _ _ (fun e => qb (by rw [hb, e]))) (fun m hm b hb => upd_ne _ _ (fun e => by subst e; rw [hD.lla.rows.new m hm _ hb] at g2; cases g2))).less (none_of hle0)
    have ho2 : (∀ c, c ∈ [V.int .i64 R.vars, q] → c.one = true) = True := eq_true (by intro c hc; rcases List.mem_cons.1 hc with h | h; rw [h]; rfl; rw [List.mem_singleton.1 h]; exact hD.lla.at_.one)
    have hset : sets [V.int .i64 0, .isl true 0 []] 0 [V.int .i64 R.vars, q] = [V.int .i64 R.vars, q] := rfl
    have hl2 : [V.int .i64 R.vars, q].length = 2 := rfl
    have hp : R.place = 0 := by rw [← hR] at hc ⊢; exact dimL_place _ _ hc
    simp (disch := omega) only [d1, hb', g2', ho2, hset, hl2, go_sem]
    have gz := upd_same s b2 [.int .i64 R.vars, q]
    exact W_retC c10_ok (resV_C3 rfl gz rfl) (Conv.refl _ _) ⟨out _ _ hle, q, qs, by rw [hc, hp]; rfl, hA⟩
  · have d1 : (decide ¬ R.code = 0) = true := decide_eq_true hc
    have hbad : R = .bad R.code R.place := by rw [← hR] at hc ⊢; exact dimL_bad _ _ hc
    simp (disch := omega) only [d1, g2', go_sem]
    have gz := upd_same s b2 [.int .i64 0, .isl true 0 []]
    exact W_retC c10_ok (resV_C3 rfl gz rfl) (Conv.refl _ _) ⟨out _ _ hle, .isl true 0 [], [], by rw [hbad]; rfl, by rw [hbad]; exact LLA.nil⟩
end Go.Proofs.YtlojopaebdnacaaDoor.Lg
