/- A line read, and a text read as a network. -/
import Derived.Test.YtjibkkhgejcjeaaGreatDoorVf
set_option linter.unusedSimpArgs false
set_option linter.unusedVariables false
namespace Go.Proofs.YtjibkkhgejcjeaaGreatDoor.Lg
open Go Go.Lib
attribute [local irreducible] SRun DS DRun
variable {Γ : St} {σ σ0 : St}
set_option maxHeartbeats 2000000 in
set_option maxRecDepth 20000 in
theorem nline_ok (hg : NumG Γ) (hw1 : Γ 1 = some (strsV whenP)) {b : Nat} {m m' : Net} {qs : List V} {ws : List Wrd} (h : RdL σ0 b (lsN m) qs σ) (ha : Adds m ws m') (hl : m.routers.length ≤ 100) (hll : m.links.length ≤ 100) :
    ACalls Tryz.prog Γ 54 [.ptr b 0, .isl false 1 (strsV ws)] σ fun r s => r = .int .i64 0 ∧ RdN σ0 b m' s := by
  have cRR : (wRouter == [114, 111, 117, 116, 101, 114]) = true := by decide
  have cLR : (wLink == [114, 111, 117, 116, 101, 114]) = false := by decide
  have cLL : (wLink == [108, 105, 110, 107]) = true := by decide
  have cCC : (wCost == [99, 111, 115, 116]) = true := by decide
  have cOR : (wOrigin == [114, 111, 117, 116, 101, 114]) = false := by decide
  have cOL : (wOrigin == [108, 105, 110, 107]) = false := by decide
  have cOO : (wOrigin == [111, 114, 105, 103, 105, 110]) = true := by decide
  have cER : (wExternal == [114, 111, 117, 116, 101, 114]) = false := by decide
  have cEL : (wExternal == [108, 105, 110, 107]) = false := by decide
  have cEO : (wExternal == [111, 114, 105, 103, 105, 110]) = false := by decide
  have cEE : (wExternal == [101, 120, 116, 101, 114, 110, 97, 108]) = true := by decide
  have cIR : (wImport == [114, 111, 117, 116, 101, 114]) = false := by decide
  have cIL : (wImport == [108, 105, 110, 107]) = false := by decide
  have cIO : (wImport == [111, 114, 105, 103, 105, 110]) = false := by decide
  have cIE : (wImport == [101, 120, 116, 101, 114, 110, 97, 108]) = false := by decide
  have cII : (wImport == [105, 109, 112, 111, 114, 116]) = true := by decide
  have cFf : (wFrom == [102, 114, 111, 109]) = true := by decide
  have cFR : (wFilter == [114, 111, 117, 116, 101, 114]) = false := by decide
  have cFL : (wFilter == [108, 105, 110, 107]) = false := by decide
  have cFO : (wFilter == [111, 114, 105, 103, 105, 110]) = false := by decide
  have cFE : (wFilter == [101, 120, 116, 101, 114, 110, 97, 108]) = false := by decide
  have cFI : (wFilter == [105, 109, 112, 111, 114, 116]) = false := by decide
  have cFF : (wFilter == [102, 105, 108, 116, 101, 114]) = true := by decide
  have cTt : (wTo == [116, 111]) = true := by decide
  have cPp : (wPort == [112, 111, 114, 116]) = true := by decide
  cases ha with
  | skip =>
    have hl0 : (strsV []).length = 0 := rfl
    refine acalls_W c54_ok rfl ?_
    simp (disch := omega) only [c54, hl0, go_sem]
    exact W_retR c54_ok rfl ⟨rfl, _, h⟩
  | router w h1 h2 h3 h4 =>
    have hln : (strsV [wRouter, w]).length = 2 := rfl
    have q0 : [wRouter, w].getD 0 [] = wRouter := rfl
    have q1 : [wRouter, w].getD 1 [] = w := rfl
    have p0 : 0 < [wRouter, w].length := by simp
    have p1 : 1 < [wRouter, w].length := by simp
    refine acalls_W c54_ok rfl ?_
    simp (disch := omega) only [c54, hln, q0, q1, cRR, go_sem]
    refine SRun.callQ (naddRouter_ok h h1 h2 h3 h4) ⟨[], rfl, rfl⟩ rfl ?_
    rintro r s ⟨rfl, hR⟩
    simp (disch := omega) only [go_sem]
    exact W_retR c54_ok rfl ⟨rfl, hR⟩
  | link wa wb x y c h1 h2 h3 h4 h5 h6 h7 =>
    have hln : (strsV [wLink, wa, wb, wCost, itoa c]).length = 5 := rfl
    have q0 : [wLink, wa, wb, wCost, itoa c].getD 0 [] = wLink := rfl
    have q3 : [wLink, wa, wb, wCost, itoa c].getD 3 [] = wCost := rfl
    have p0 : 0 < [wLink, wa, wb, wCost, itoa c].length := by simp
    have p3 : 3 < [wLink, wa, wb, wCost, itoa c].length := by simp
    refine acalls_W c54_ok rfl ?_
    simp (disch := omega) only [c54, hln, q0, q3, cLR, cLL, cCC, go_sem]
    refine SRun.callQ (naddLink_ok hg h h1 h2 h3 h4 h5 h6 h7 hl) ⟨[], rfl, rfl⟩ rfl ?_
    rintro r s ⟨rfl, hR⟩
    simp (disch := omega) only [go_sem]
    exact W_retR c54_ok rfl ⟨rfl, hR⟩
  | origin w x h1 h2 h3 =>
    have hln : (strsV [wOrigin, w]).length = 2 := rfl
    have q0 : [wOrigin, w].getD 0 [] = wOrigin := rfl
    have q1 : [wOrigin, w].getD 1 [] = w := rfl
    have p0 : 0 < [wOrigin, w].length := by simp
    have p1 : 1 < [wOrigin, w].length := by simp
    refine acalls_W c54_ok rfl ?_
    simp (disch := omega) only [c54, hln, q0, cOR, cOL, cOO, go_sem]
    refine W_drawW ?_
    simp (disch := omega) only [q1, go_sem]
    refine DRun.callQ (naddTo_ok (i := 2) h (by omega) rfl h1 h2 (by omega) (by omega) hl) ⟨[], rfl, rfl⟩ ?_
    rintro r s ⟨rfl, hR⟩
    simp (disch := omega) only [go_sem]
    exact W_retR c54_ok rfl ⟨rfl, hR⟩
  | external w x h1 h2 h3 =>
    have hln : (strsV [wExternal, w]).length = 2 := rfl
    have q0 : [wExternal, w].getD 0 [] = wExternal := rfl
    have q1 : [wExternal, w].getD 1 [] = w := rfl
    have p0 : 0 < [wExternal, w].length := by simp
    have p1 : 1 < [wExternal, w].length := by simp
    refine acalls_W c54_ok rfl ?_
    simp (disch := omega) only [c54, hln, q0, cER, cEL, cEO, cEE, go_sem]
    refine W_drawW ?_
    simp (disch := omega) only [q1, go_sem]
    refine DRun.callQ (naddTo_ok (i := 3) h (by omega) rfl h1 h2 (by omega) (by omega) hl) ⟨[], rfl, rfl⟩ ?_
    rintro r s ⟨rfl, hR⟩
    simp (disch := omega) only [go_sem]
    exact W_retR c54_ok rfl ⟨rfl, hR⟩
  | import_ wa wb x h1 h2 h3 h4 h5 =>
    have hdl := doW_len x
    obtain ⟨rest, hrest⟩ : ∃ r, r = whenW x ++ doW x := ⟨_, rfl⟩
    have hrl : 1 ≤ rest.length := by rw [hrest, List.length_append]; omega
    have key := naddImport_ok (Γ := Γ) hg hw1 h h1 h2 h3 h4 h5 hl hll
    rw [← hrest] at key
    show ACalls _ _ _ [_, .isl false 1 (strsV (wImport :: wa :: wFrom :: wb :: (whenW x ++ doW x)))] _ _
    rw [← hrest]
    have hln : (strsV (wImport :: wa :: wFrom :: wb :: rest)).length = rest.length + 1 + 1 + 1 + 1 := by rw [strsV_len]; rfl
    have d0 : decide (((rest.length + 1 + 1 + 1 + 1 : Nat) : Int) = 0) = false := decide_eq_false (by omega)
    have d2 : decide (((rest.length + 1 + 1 + 1 + 1 : Nat) : Int) = 2) = false := decide_eq_false (by omega)
    have d4 : decide (((rest.length + 1 + 1 + 1 + 1 : Nat) : Int) > 4) = true := decide_eq_true (by omega)
    have q0 : (wImport :: wa :: wFrom :: wb :: rest).getD 0 [] = wImport := rfl
    have q2 : (wImport :: wa :: wFrom :: wb :: rest).getD 2 [] = wFrom := rfl
    have p0 : 0 < (wImport :: wa :: wFrom :: wb :: rest).length := by simp
    have p2 : 2 < (wImport :: wa :: wFrom :: wb :: rest).length := by simp
    refine acalls_W c54_ok rfl ?_
    simp (disch := omega) only [c54, hln, q0, q2, d0, d2, d4, cIR, cIL, cIO, cIE, cII, cFf, go_sem]
    refine SRun.callQ key ⟨[], rfl, rfl⟩ rfl ?_
    rintro r s ⟨rfl, hR⟩
    simp (disch := omega) only [go_sem]
    exact W_retR c54_ok rfl ⟨rfl, hR⟩
  | filter wa wb x h1 h2 h3 h4 h5 h6 h7 =>
    have hln : (strsV [wFilter, wa, wTo, wb, wPort, itoa x.low, itoa x.high]).length = 7 := rfl
    have q0 : [wFilter, wa, wTo, wb, wPort, itoa x.low, itoa x.high].getD 0 [] = wFilter := rfl
    have q2 : [wFilter, wa, wTo, wb, wPort, itoa x.low, itoa x.high].getD 2 [] = wTo := rfl
    have q4 : [wFilter, wa, wTo, wb, wPort, itoa x.low, itoa x.high].getD 4 [] = wPort := rfl
    have p0 : 0 < [wFilter, wa, wTo, wb, wPort, itoa x.low, itoa x.high].length := by simp
    have p2 : 2 < [wFilter, wa, wTo, wb, wPort, itoa x.low, itoa x.high].length := by simp
    have p4 : 4 < [wFilter, wa, wTo, wb, wPort, itoa x.low, itoa x.high].length := by simp
    refine acalls_W c54_ok rfl ?_
    simp (disch := omega) only [c54, hln, q0, q2, q4, cFR, cFL, cFO, cFE, cFI, cFF, cTt, cPp, go_sem]
    refine SRun.callQ (naddFilter_ok hg h h1 h2 h3 h4 h5 h6 h7 hl hll) ⟨[], rfl, rfl⟩ rfl ?_
    rintro r s ⟨rfl, hR⟩
    simp (disch := omega) only [go_sem]
    exact W_retR c54_ok rfl ⟨rfl, hR⟩
end Go.Proofs.YtjibkkhgejcjeaaGreatDoor.Lg
/- A text read as a network: impl.ReadNet. -/
set_option linter.unusedSimpArgs false
set_option linter.unusedVariables false
namespace Go.Proofs.YtjibkkhgejcjeaaGreatDoor.Lg
open Go Go.Lib
attribute [local irreducible] SRun DS DRun
variable {Γ : St} {σ σ0 : St}
theorem adds_le {m m' : Net} {ws : List Wrd} (h : Adds m ws m') : m.routers.length ≤ m'.routers.length ∧ m.links.length ≤ m'.links.length := by
  cases h <;> simp
theorem chain_le {ls : List (List Wrd)} {m m' : Net} (h : Chain ls m m') : m.routers.length ≤ m'.routers.length ∧ m.links.length ≤ m'.links.length := by
  induction h with
  | nil => exact ⟨Nat.le_refl _, Nat.le_refl _⟩
  | cons h _ ih => have := adds_le h; omega
theorem RdL.start {b : Nat} (hb : σ b = none) : RdL σ b (lsN emptyN) [.isl true 0 [], .isl true 0 [], .isl true 0 [], .isl true 0 [], .isl true 0 [], .isl true 0 []] (upd σ b [.isl true 0 [], .isl true 0 [], .isl true 0 [], .isl true 0 [], .isl true 0 [], .isl true 0 []]) := by
  have hn : ∀ s : St, ∀ es, At s es [] (.isl true 0 []) := fun s es => ⟨fun x hx => (by cases hx), .inl ⟨rfl, 0, rfl⟩⟩
  have hq : ∀ i, blk (([.isl true 0 [], .isl true 0 [], .isl true 0 [], .isl true 0 [], .isl true 0 [], .isl true 0 []] : List V).getD i .undef) = none := fun i => by
    rcases i with _ | _ | _ | _ | _ | _ | i <;> rfl
  refine ⟨upd_same _ _ _, rfl, fun i hi => ?_, fun i j _ _ _ d hd => ?_, fun i _ e => ?_, fun i _ d hd => ?_, hb, le_upd hb⟩
  · have hi6 : i < 6 := hi
    rcases (by omega : i = 0 ∨ i = 1 ∨ i = 2 ∨ i = 3 ∨ i = 4 ∨ i = 5) with rfl | rfl | rfl | rfl | rfl | rfl <;> exact hn _ _
  · rw [hq] at hd; cases hd
  · rw [hq] at e; cases e
  · rw [hq] at hd; cases hd
/-- The reader's own box is let go. -/
theorem RdL.out {b b2 : Nat} {z c : List V} {L : List (Nat × List V)} {qs : List V} {s : St} (hb2 : σ b2 = none) (h : RdL (upd σ b2 z) b L qs s) : RdL σ b L qs (upd s b2 c) := by
  have hne : ∀ d, upd σ b2 z d = none → d ≠ b2 ∧ σ d = none := fun d hd => by
    have := upd_none.1 hd
    exact this
  have hbn := hne b h.bnew
  refine ⟨by rw [upd_ne _ _ hbn.1]; exact h.box_, h.len, fun i hi => (h.at_ i hi).to fun d hd => upd_ne _ _ (hne d (h.new i hi d hd)).1, h.apart, h.nb, fun i hi d hd => (hne d (h.new i hi d hd)).2, hbn.2, fun d x hd => ?_⟩
  have e : d ≠ b2 := fun e => by subst e; rw [hb2] at hd; cases hd
  rw [upd_ne _ _ e]
  exact h.le d x (by rw [upd_ne _ _ e]; exact hd)
theorem cutN_len (b : UInt8) : ∀ (l cur : List UInt8), (cutGo b l cur).length ≤ l.length + 1 ∧ ∀ w ∈ cutGo b l cur, w.length ≤ cur.length + l.length := by
  intro l
  induction l with
  | nil => intro cur; simp [cutGo]
  | cons c r ih =>
    intro cur
    simp only [cutGo]
    split
    · have := ih []
      refine ⟨by simp only [List.length_cons]; omega, fun w hw => ?_⟩
      rcases List.mem_cons.1 hw with rfl | hw
      · omega
      · have := this.2 w hw; simp only [List.length_cons, List.length_nil] at this ⊢; omega
    · have := ih (cur ++ [c])
      refine ⟨by simp only [List.length_cons]; omega, fun w hw => ?_⟩
      have := this.2 w hw; simp only [List.length_append, List.length_cons, List.length_nil] at this ⊢; omega
theorem cutP_len (t : List UInt8) : (cutP 10 t).length ≤ t.length + 1 := (cutN_len 10 t []).1
theorem cutP_mem (t : List UInt8) : ∀ w ∈ cutP 10 t, w.length ≤ t.length := fun w hw => by have := (cutN_len 10 t []).2 w hw; simpa using this
theorem chain_cons {ws : List Wrd} {r : List (List Wrd)} {m m2 : Net} (h : Chain (ws :: r) m m2) : ∃ m', Adds m ws m' ∧ Chain r m' m2 := by
  cases h with
  | cons h1 h2 => exact ⟨_, h1, h2⟩
theorem chain_nil {m m2 : Net} (h : Chain [] m m2) : m2 = m := by cases h; rfl
theorem ReadNet_ok (hg : NumG Γ) (hw1 : Γ 1 = some (strsV whenP)) {t : List UInt8} {n : Net} (hl : t.length ≤ 65536) (hc : Chain ((cutP 10 t).map netW) emptyN n) (hr : 1 ≤ n.routers.length ∧ n.routers.length ≤ 100) (hll : n.links.length ≤ 100) :
    Ret Tryz.prog Γ 20 [.str t] σ (.tup [netV n, .int .i64 0, .int .i64 0]) σ := by
  have d0 : decide ((t.length : Int) > 65536) = false := decide_eq_false (by omega)
  have hS := fun σ => Split_ok (Γ := Γ) (σ := σ) hg (t := t) (b := 10) (by omega)
  have hll1 : ∀ w ∈ cutP 10 t, w.length ≤ 1000000 := fun w hw => by
    have := cutP_mem t w hw; omega
  have hlc : (cutP 10 t).length ≤ t.length + 1 := cutP_len t
  generalize cutP 10 t = ls at *
  have hsv : ls.map V.str = strsV ls := rfl
  rw [hsv] at hS
  have hsl := strsV_len ls
  refine ret_of c20_ok rfl ?_
  simp (disch := omega) only [c20, go_sem]
  refine SRun.allocR ?_
  intro b2 hb2
  simp (disch := omega) only [d0, go_sem]
  refine SRun.allocR ?_
  intro b5 hb5
  have hst := RdL.start hb5
  simp (disch := omega) only [go_sem]
  refine SRun.callR (hS _) ⟨[], rfl, rfl⟩ rfl ?_
  simp (disch := omega) only [hsl, go_sem]
  have hle2 := le_upd (cs := [V.isl true 0 [], V.isl true 0 [], V.isl true 0 [], V.isl true 0 [], V.isl true 0 [], V.isl true 0 []]) hb2
  have hb2s := upd_same σ b2 [V.isl true 0 [], V.isl true 0 [], V.isl true 0 [], V.isl true 0 [], V.isl true 0 [], V.isl true 0 []]
  refine W_loopC (α := Nat × Net × List V × St) (fun a => a.1 ≤ ls.length ∧ Chain ((ls.drop a.1).map netW) a.2.1 n ∧ RdL (upd σ b2 [V.isl true 0 [], V.isl true 0 [], V.isl true 0 [], V.isl true 0 [], V.isl true 0 [], V.isl true 0 []]) b5 (lsN a.2.1) a.2.2.1 a.2.2.2) (fun a => [(2, .ptr b2 0), (5, .ptr b5 0), (14, .isl true 1 (strsV ls)), (15, .int .i64 ls.length), (16, .int .i64 (a.1 : Nat))]) (fun a => a.2.2.2) (fun a => ls.length - a.1) (0, emptyN, _, _) ⟨by simp, by simpa using hc, hst⟩ (by simp (disch := omega) only [subT, Int.natCast_add, Int.cast_ofNat_Int, go_sem] <;> (repeat' apply And.intro) <;> first | rfl | (congr 1; omega) | assumption) rfl ?_
  rintro ⟨i, m, qs, s⟩ ⟨hi, hch, hR⟩ ih
  dsimp only at hi hch hR
  have hm := chain_le hch
  simp (disch := omega) only [go_sem]
  first | refine iteW_dec (fun hq => ?_) (fun hq => ?_) | refine iteW_of (fun hq => ?_) (fun hq => ?_)
  · have hi' : i < ls.length := by omega
    have hline := hll1 _ (getD_mem [] hi')
    rw [drop_cons [] hi', List.map_cons] at hch
    obtain ⟨m', hA, hch'⟩ := chain_cons hch
    simp (disch := omega) only [go_sem]
    refine SRun.callR (netWords_ok hline) ⟨[], rfl, rfl⟩ rfl ?_
    simp (disch := omega) only [go_sem]
    refine SRun.callQ (nline_ok hg hw1 hR hA (by omega) (by omega)) ⟨[], rfl, rfl⟩ rfl ?_
    rintro r s' ⟨rfl, qs', hR'⟩
    simp (disch := omega) only [go_sem]
    exact ih (i + 1, m', qs', s') _ _ ⟨by simp only; omega, hch', hR'⟩ (by simp only; omega) (by simp (disch := omega) only [subT, Int.natCast_add, Int.cast_ofNat_Int, go_sem] <;> (repeat' apply And.intro) <;> first | rfl | (congr 1; omega) | assumption) rfl
  · obtain rfl : i = ls.length := by omega
    rw [List.drop_length, List.map_nil] at hch
    obtain rfl := chain_nil hch
    clear ih
    have hbx := hR.box_
    have hones := hR.ones
    obtain ⟨q0, q1, q2, q3, q4, q5, rfl, a0, a1, a2, a3, a4, a5⟩ := hR.six
    have dr : decide ((n.routers.length : Int) = 0) = false := decide_eq_false (by omega)
    have hs2 : s b2 = some [V.isl true 0 [], V.isl true 0 [], V.isl true 0 [], V.isl true 0 [], V.isl true 0 [], V.isl true 0 []] := hR.le _ _ hb2s
    have ht6 : ([q0, q1, q2, q3, q4, q5] : List V).take 6 = [q0, q1, q2, q3, q4, q5] := rfl
    have hone : (∀ c, c ∈ [q0, q1, q2, q3, q4, q5] → c.one = true) = True := eq_true hones
    have hsets : sets [V.isl true 0 [], V.isl true 0 [], V.isl true 0 [], V.isl true 0 [], V.isl true 0 [], V.isl true 0 []] 0 [q0, q1, q2, q3, q4, q5] = [q0, q1, q2, q3, q4, q5] := rfl
    simp (disch := omega) only [hbx, stepW_len_at a0, strsV_len, dr, go_sem]
    have o0 := a0.one
    have o1 := a1.one
    have o2 := a2.one
    have o3 := a3.one
    have o4 := a4.one
    have o5 := a5.one
    have ho := hR.out (c := [q0, q1, q2, q3, q4, q5]) hb2
    have hfz := ho.conv
    simp (disch := omega) only [hs2, o0, o1, o2, o3, o4, o5, and_self, if_true, hsets, go_sem]
    refine W_retC c20_ok (r := .tup [.agg [q0, q1, q2, q3, q4, q5], .int .i64 0, .int .i64 0]) (r' := .tup [netV n, .int .i64 0, .int .i64 0]) (σ' := σ) ?_ ⟨ho.le, frz_tup ⟨hfz, .refl _, .refl _, trivial⟩⟩ ⟨rfl, rfl⟩
    show resV [.cell 2 true 6, .t 3, .t 4] _ _ = _
    simp [resV, resV1, look, upd_same]
end Go.Proofs.YtjibkkhgejcjeaaGreatDoor.Lg
