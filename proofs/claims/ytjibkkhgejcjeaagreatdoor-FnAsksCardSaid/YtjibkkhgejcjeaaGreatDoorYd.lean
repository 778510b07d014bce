/- A question's reader: the words of a question read. -/
import Derived.Test.YtjibkkhgejcjeaaGreatDoorYc
set_option linter.unusedSimpArgs false
set_option linter.unusedVariables false
namespace Go.Proofs.YtjibkkhgejcjeaaGreatDoor.Lg
open Go Go.Lib
attribute [local irreducible] SRun DS DRun
variable {Γ : St} {σ σ0 : St}
theorem stepK_sla {σ : St} {K : V → St → Prop} (m : Nat) (cs : List V) : stepK (.sla m 1 (.c (.iptr cs))) σ K = (cs.length = m ∧ K (.isl true 1 cs) σ) := by
  rw [stepK_pure (fun _ => rfl)]; simp [pureK, pureI, ev]
attribute [go_sem] stepK_sla
section
variable {P : Program} {f : FuncId} {n : Nat} {Q : V → St → Prop} {k : List It} {T : Ts}
end
theorem W_retE {P : Program} {f : FuncId} {n : Nat} {k : List It} {T : Ts} {cf : CF} (hc : compF P f = some cf) {r : V} {σ' : St} (hle : ∀ b cs, σ' b = some cs → σ b = some cs) (hr : resV cf.rs T σ = some r) : W P Γ f n (fun x s => x = r ∧ s = σ') (.code .ret :: k) T σ :=
  W_retC hc hr (Conv.drop _ hle) ⟨rfl, rfl⟩
def zero4 : List V := [.int .i64 0, .int .i64 0, .int .i64 0, .int .i64 0]
def prop4 (kind from_ port way : Int) : List V := [.int .i64 kind, .int .i64 from_, .int .i64 port, .int .i64 way]
/-- What the reader of a question holds: its box, the property's, the result's. -/
structure RA (σ : St) (n : Net) (rb b8 b4 : Nat) (st : AskT) (pc : List V) (s : St) : Prop where
  ask_ : s rb = some (askC n st)
  prop_ : s b8 = some pc
  res_ : s b4 = some zero4
  n1 : rb ≠ b8
  n2 : rb ≠ b4
  n3 : b8 ≠ b4
  f1 : σ rb = none
  f2 : σ b8 = none
  le_ : ∀ d x, σ d = some x → s d = some x
theorem RA.ask {n : Net} {rb b8 b4 : Nat} {st : AskT} {pc : List V} {s : St} (h : RA σ n rb b8 b4 st pc s) (st' : AskT) : RA σ n rb b8 b4 st' pc (upd s rb (askC n st')) :=
  ⟨upd_same _ _ _, by rw [upd_ne _ _ h.n1.symm]; exact h.prop_, by rw [upd_ne _ _ h.n2.symm]; exact h.res_, h.n1, h.n2, h.n3, h.f1, h.f2, fun d x hd => by rw [upd_ne _ _ (fun e => by subst e; rw [h.f1] at hd; cases hd)]; exact h.le_ d x hd⟩
theorem RA.prop {n : Net} {rb b8 b4 : Nat} {st : AskT} {pc : List V} {s : St} (h : RA σ n rb b8 b4 st pc s) (pc' : List V) : RA σ n rb b8 b4 st pc' (upd s b8 pc') :=
  ⟨by rw [upd_ne _ _ h.n1]; exact h.ask_, upd_same _ _ _, by rw [upd_ne _ _ h.n3.symm]; exact h.res_, h.n1, h.n2, h.n3, h.f1, h.f2, fun d x hd => by rw [upd_ne _ _ (fun e => by subst e; rw [h.f2] at hd; cases hd)]; exact h.le_ d x hd⟩
theorem AskT_len_next {s : AskT} {L : Nat} (h : s.1.length ≤ L) : (nextP s).2.1.length ≤ L := Nat.le_trans (nextP_len s).1 h
/-- The words left are some of the words. -/
def AskW (s : AskT) : Prop := s.1.length ≤ 1000000 ∧ ∀ w ∈ s.1, w.length ≤ 1000000
theorem AskW.next {s : AskT} (h : AskW s) : AskW (nextP s).2 := ⟨AskT_len_next h.1, ((nextP_len s).2 _ h.2).2⟩
theorem AskW.takes {x : Wrd} {s : AskT} (h : AskW s) : AskW (takesP x s).2 := by
  unfold takesP
  split
  · exact h
  · split
    · exact h
    · rename_i w r e
      split
      · have h' := h; unfold AskW at h'; rw [e] at h'
        exact ⟨by have := h'.1; simp at this ⊢; omega, fun y hy => h'.2 y (by simp [hy])⟩
      · exact h
theorem AskW.must {b : Bool} {s : AskT} (h : AskW s) : AskW (mustP b s) := by
  unfold mustP; split <;> exact h
theorem AskW.router {rs : List Wrd} {s : AskT} (h : AskW s) : AskW (routerP rs s).2 := h.next
theorem AskW.number {hi : Int} {s : AskT} (h : AskW s) : AskW (numberP hi s).2 := by
  unfold numberP; split
  · exact h.next
  · exact h.next
set_option maxHeartbeats 2000000 in
theorem readAsk_ok (hg : NumG Γ) (hk : Γ 0 = some (strsV kindsP)) {n : Net} {ws : List Wrd} (hr : n.routers.length ≤ 1000000000) (hws : AskW (ws, 0)) :
    Ret Tryz.prog Γ 36 [netV n, .isl false 1 (strsV ws)] σ (.tup [.agg (prop4 (askI n.routers ws).kind (askI n.routers ws).from_ (askI n.routers ws).port (askI n.routers ws).way), .int .i64 (askI n.routers ws).k, .int .i64 (askI n.routers ws).code]) σ := by
  have hev : ∀ T, ev Γ T (.g 0) = .iptr (strsV kindsP) := fun T => by simp [ev, hk]
  have hk5 : (strsV kindsP).length = 5 := rfl
  unfold askI
  generalize hst : ((ws, 0) : AskT) = st0 at *
  have hask0 : [.isl false 1 (strsV n.routers), .isl false 3 (linksV n.links), .isl false 1 (ints n.origins), .isl false 1 (ints n.externals), .isl false 5 (impsV n.imports), .isl false 4 (filsV n.filters), .isl false 1 (strsV ws), V.int .i64 0] = askC n st0 := by subst hst; rfl
  have hlen : (netC n).take 6 = netC n := rfl
  have hlen2 : (netC n).length = 6 := rfl
  have hcs : netC n = [.isl false 1 (strsV n.routers), .isl false 3 (linksV n.links), .isl false 1 (ints n.origins), .isl false 1 (ints n.externals), .isl false 5 (impsV n.imports), .isl false 4 (filsV n.filters)] := rfl
  refine ret_of c36_ok rfl ?_
  simp (disch := omega) only [c36, netV, go_sem]
  refine SRun.boxR (net_one n) ?_
  intro b2 hb2
  have g2 := upd_same σ b2 (netC n)
  have hσ : ∀ d x, σ d = some x → upd σ b2 (netC n) d = some x := le_upd hb2
  simp (disch := omega) only [go_sem]
  generalize upd σ b2 (netC n) = s1 at *
  refine SRun.allocR ?_
  intro b4 hb4
  have g4 := upd_same s1 b4 zero4
  have e24 : b2 ≠ b4 := fun e => by subst e; rw [hb4] at g2; cases g2
  have g2 : upd s1 b4 zero4 b2 = some (netC n) := by rw [upd_ne _ _ e24]; exact g2
  have hσ0 := hσ
  have hσ : ∀ d x, σ d = some x → upd s1 b4 zero4 d = some x := fun d x hd => le_upd hb4 d x (hσ d x hd)
  change W _ _ _ _ _ _ _ (upd s1 b4 zero4)
  have e42 : ∀ d x, σ d = some x → d ≠ b4 := fun d x hd e => by subst e; rw [hσ0 d x hd] at hb4; cases hb4
  generalize upd s1 b4 zero4 = s2 at *
  simp (disch := omega) only [g2, hlen, hlen2, go_sem]
  refine ⟨net_one n, SRun.boxR (m := 8) ?_ ?_⟩
  · subst hst; simp [ev, look, V.cells, V.one, hcs]
  intro rb hrb
  have er4 : rb ≠ b4 := fun e => by subst e; rw [hrb] at g4; cases g4
  have hfr : σ rb = none := by
    cases e : σ rb with
    | none => rfl
    | some x => rw [hσ rb x e] at hrb; cases hrb
  change W _ _ _ _ _ _ _ (upd s2 rb (V.cells (.agg (netC n ++ [.isl false 1 (strsV ws), .int .i64 0]))))
  have hA : V.cells (.agg (netC n ++ [.isl false 1 (strsV ws), .int .i64 0])) = askC n st0 := by subst hst; rfl
  rw [hA]
  clear hA
  have gb := upd_same s2 rb (askC n st0)
  have g4 : upd s2 rb (askC n st0) b4 = some zero4 := by rw [upd_ne _ _ er4.symm]; exact g4
  have hσ : ∀ d x, σ d = some x → upd s2 rb (askC n st0) d = some x := fun d x hd => le_upd hrb d x (hσ d x hd)
  generalize upd s2 rb (askC n st0) = s3 at *
  simp (disch := omega) only [go_sem]
  refine SRun.callR (takes_ok hws.1 gb) ⟨[], rfl, rfl⟩ rfl ?_
  simp (disch := omega) only [go_sem]
  refine SRun.callR (must_ok (upd_same _ _ _)) ⟨[], rfl, rfl⟩ rfl ?_
  rw [upd_upd]
  have hwst : AskW (mustP (takesP wVerify st0).1 (takesP wVerify st0).2) := hws.takes.must
  change W _ _ _ _ _ _ _ (upd s3 rb (askC n (mustP (takesP wVerify st0).1 (takesP wVerify st0).2)))
  generalize mustP (takesP wVerify st0).1 (takesP wVerify st0).2 = st at *
  have gb2 := upd_same s3 rb (askC n st)
  have g4 : upd s3 rb (askC n st) b4 = some zero4 := by rw [upd_ne _ _ er4.symm]; exact g4
  have hσ : ∀ d x, σ d = some x → upd s3 rb (askC n st) d = some x := fun d x hd => by rw [upd_ne _ _ (fun e => by subst e; rw [hfr] at hd; cases hd)]; exact hσ d x hd
  generalize upd s3 rb (askC n st) = s4 at *
  simp (disch := omega) only [go_sem]
  rw [W_draw]
  refine DRun.start (DRun.mixR1 gb2 (fun T s' => ∃ b8, b8 ≠ rb ∧ s4 b8 = none ∧ s' = upd (upd emp rb (askC n (nextP st).2)) b8 zero4 ∧ look T 4 = .ptr b4 0 ∧ look T 7 = .ptr rb 0 ∧ look T 8 = .ptr b8 0 ∧ look T 22 = .agg (prop4 (idxP kindsP (nextP st).1) 0 (-1) 0)) rfl ?_ ?_)
  · have hfree : ∀ {b8 : Nat} {z y : List V}, disj (upd (upd emp rb z) b8 y) (del s4 rb) → (upd emp rb z) b8 = none → b8 ≠ rb ∧ s4 b8 = none := fun {b8 z y} hd hn => by
      have e := (upd_none.1 hn).1
      refine ⟨e, ?_⟩
      have := (hd b8).resolve_left (by rw [upd_same]; simp)
      rwa [del_ne _ e] at this
    have hkl : kindsP.length ≤ 1000000000000 := by decide
    simp (disch := omega) only [hev, hk5, true_and, go_sem]
    refine DS.wr2 (WrF.call (next_okA hwst.1 (upd_same emp rb _)) ⟨[], rfl, rfl⟩) rfl ?_ ?_
    · rintro _ _ ⟨rfl, rfl⟩ hd
      rw [upd_upd]
      simp (disch := omega) only [go_sem]
      refine DS.wr2 (WrF.call (indexStr_ok hkl) ⟨[], rfl, rfl⟩) rfl ?_ ?_
      · rintro _ _ ⟨rfl, rfl⟩ hd
        simp (disch := omega) only [go_sem]
        refine DS.wrQ WrF.alloc rfl ?_
        rintro _ s9 ⟨b8, hb8, rfl, rfl⟩ hd9
        obtain ⟨f1, f2⟩ := hfree hd9 hb8
        refine ⟨b8, f1, f2, rfl, ?_⟩
        (repeat' apply And.intro) <;> rfl
      · refine DS.wrQ WrF.alloc rfl ?_
        rintro _ s9 ⟨b8, hb8, rfl, rfl⟩ hd9
        obtain ⟨f1, f2⟩ := hfree hd9 hb8
        simp (disch := omega) only [go_sem]
        refine DS.wrQ (WrF.call (indexStr_ok hkl) ⟨[], rfl, rfl⟩) rfl ?_
        rintro _ _ ⟨rfl, rfl⟩ hd
        simp (disch := omega) only [go_sem]
        refine ⟨b8, f1, f2, rfl, ?_⟩
        (repeat' apply And.intro) <;> rfl
    · refine DS.wrQ WrF.alloc rfl ?_
      rintro _ s9 ⟨b8, hb8, rfl, rfl⟩ hd9
      obtain ⟨f1, f2⟩ := hfree hd9 hb8
      simp (disch := omega) only [go_sem]
      refine DS.wrQ (WrF.call (next_okA hwst.1 (by rw [upd_ne _ _ f1.symm, upd_same])) ⟨[], rfl, rfl⟩) rfl ?_
      rintro _ _ ⟨rfl, rfl⟩ hd
      rw [upd_comm _ f1, upd_upd]
      simp (disch := omega) only [go_sem]
      refine DS.wrQ (WrF.call (indexStr_ok hkl) ⟨[], rfl, rfl⟩) rfl ?_
      rintro _ _ ⟨rfl, rfl⟩ hd
      simp (disch := omega) only [go_sem]
      refine ⟨b8, f1, f2, rfl, ?_⟩
      (repeat' apply And.intro) <;> rfl
  rintro T s' ⟨b8, f1, f2, rfl, k4, k7, k8, k22⟩
  rw [cup_del2 f1]
  have e84 : b8 ≠ b4 := by intro e; subst e; rw [f2] at g4; cases g4
  have e8f : σ b8 = none := by
    cases e : σ b8 with
    | none => rfl
    | some x => rw [hσ b8 x e] at f2; cases f2
  have hle : ∀ d x, σ d = some x → upd (upd s4 rb (askC n (nextP st).2)) b8 zero4 d = some x := by
    intro d x hd
    have h1 : d ≠ rb := by intro e; subst e; rw [hfr] at hd; cases hd
    have h2 : d ≠ b8 := by intro e; subst e; rw [e8f] at hd; cases hd
    rw [upd_ne _ _ h2, upd_ne _ _ h1]; exact hσ d x hd
  have hR : RA σ n rb b8 b4 (nextP st).2 zero4 (upd (upd s4 rb (askC n (nextP st).2)) b8 zero4) :=
    ⟨by rw [upd_ne _ _ f1.symm, upd_same], upd_same _ _ _, by rw [upd_ne _ _ e84.symm, upd_ne _ _ er4.symm]; exact g4, f1.symm, er4, e84, hfr, e8f, hle⟩
  generalize upd (upd s4 rb (askC n (nextP st).2)) b8 zero4 = s at *
  unfold kindI
  have hwst := hwst.next
  generalize nextP st = st1 at *
  obtain ⟨kw, st⟩ := st1
  dsimp only at *
  generalize hkd : idxP kindsP kw = kind at *
  have h4 : ∀ a b c d, (prop4 a b c d).length = 4 := fun _ _ _ _ => rfl
  have dk : decide (0 < kind) = decide (kind > 0) := rfl
  simp (disch := omega) only [k8, k22, hR.prop_, zero4, prop4, k7, go_sem]
  have hR := hR.prop (prop4 kind 0 (-1) 0)
  change SRun _ _ _ _ _ _ (upd s b8 (prop4 kind 0 (-1) 0)) _
  generalize upd s b8 (prop4 kind 0 (-1) 0) = s at *
  refine SRun.callR (must_ok hR.ask_) ⟨[], rfl, rfl⟩ rfl ?_
  have hR := hR.ask (mustP (decide (kind > 0)) st)
  have hwst := hwst.must (b := decide (kind > 0))
  generalize mustP (decide (kind > 0)) st = st at *
  generalize upd s rb (askC n st) = s at *
  simp (disch := omega) only [k7, go_sem]
  refine SRun.callR (router_ok hr hwst.1 hR.ask_) ⟨[], rfl, rfl⟩ rfl ?_
  have hR := hR.ask (routerP n.routers st).2
  have hwst := hwst.router (rs := n.routers)
  unfold fromI
  generalize routerP n.routers st = rr at *
  obtain ⟨from_, st⟩ := rr
  dsimp only at *
  generalize upd s rb (askC n st) = s at *
  have hP := hR.prop_
  unfold prop4 at hP
  simp (disch := omega) only [k8, hP, go_sem]
  have hR := hR.prop [V.int .i64 kind, V.int .i64 from_, V.int .i64 (-1), V.int .i64 0]
  generalize upd s b8 [V.int .i64 kind, V.int .i64 from_, V.int .i64 (-1), V.int .i64 0] = s at *
  clear hP
  by_cases h3 : kind = 3
  case' pos =>
    have d3 : decide (kind = 3) = true := decide_eq_true h3
    simp only [if_pos h3]
    simp (disch := omega) only [d3, k7, go_sem]
    refine SRun.callR (takes_ok hwst.1 hR.ask_) ⟨[], rfl, rfl⟩ rfl ?_
    simp (disch := omega) only [k7, go_sem]
    refine SRun.callR (must_ok (upd_same _ _ _)) ⟨[], rfl, rfl⟩ rfl ?_
    rw [upd_upd]
    unfold wayI
    have hwst := (hwst.takes (x := wVia)).must (b := (takesP wVia st).1)
    have hR := hR.ask (mustP (takesP wVia st).1 (takesP wVia st).2)
    change W _ _ _ _ _ _ _ (upd s rb (askC n (mustP (takesP wVia st).1 (takesP wVia st).2)))
    generalize mustP (takesP wVia st).1 (takesP wVia st).2 = st at *
    generalize upd s rb (askC n st) = s at *
    simp (disch := omega) only [k7, go_sem]
    refine SRun.callR (router_ok hr hwst.1 hR.ask_) ⟨[], rfl, rfl⟩ rfl ?_
    have hR := hR.ask (routerP n.routers st).2
    have hwst := hwst.router (rs := n.routers)
    generalize routerP n.routers st = rr at *
    obtain ⟨way, st⟩ := rr
    dsimp only at *
    generalize upd s rb (askC n st) = s at *
    have hP := hR.prop_
    simp (disch := omega) only [k8, hP, k7, go_sem]
    have hR := hR.prop [V.int .i64 kind, V.int .i64 from_, V.int .i64 (-1), V.int .i64 way]
    generalize upd s b8 [V.int .i64 kind, V.int .i64 from_, V.int .i64 (-1), V.int .i64 way] = s at *
    clear hP
  case' neg =>
    have d3 : decide (kind = 3) = false := decide_eq_false h3
    simp only [if_neg h3]
    simp (disch := omega) only [d3, k7, go_sem]
    obtain ⟨way, hway⟩ : ∃ w : Int, w = 0 := ⟨0, rfl⟩
    have hR : RA σ n rb b8 b4 st [V.int .i64 kind, V.int .i64 from_, V.int .i64 (-1), V.int .i64 way] s := by rw [hway]; exact hR
    rw [show tailI kind from_ 0 st = tailI kind from_ way st by rw [hway]]
  all_goals
    unfold tailI
    refine SRun.callR (takes_ok hwst.1 hR.ask_) ⟨[], rfl, rfl⟩ rfl ?_
    have hwst := hwst.takes (x := wPort)
    have hR := hR.ask (takesP wPort st).2
    change W _ _ _ _ _ _ ((42, .bool (takesP wPort st).1) :: _) (upd s rb (askC n (takesP wPort st).2))
    generalize ho : takesP wPort st = tk at *
    obtain ⟨tb, st1⟩ := tk
    have hopt : optI wPort 15 (-1) st = if tb then numberP 15 st1 else (-1, st1) := by simp [optI, ho]
    rw [hopt]
    dsimp only at *
    clear hopt ho
    generalize upd s rb (askC n st1) = s at *
    by_cases htb : tb = true
  all_goals first
    | (have h : tb = true := htb
       subst h
       simp only [if_true]
       simp (disch := omega) only [k7, go_sem]
       refine SRun.callR (number_okA hg hwst.1 hwst.2 hR.ask_) ⟨[], rfl, rfl⟩ rfl ?_
       have hR := hR.ask (numberP 15 st1).2
       have hwst := hwst.number (hi := 15)
       generalize numberP 15 st1 = pr at *
       obtain ⟨port, st1⟩ := pr
       dsimp only at *
       generalize upd s rb (askC n st1) = s at *
       have hP := hR.prop_
       simp (disch := omega) only [k8, hP, k7, go_sem]
       have hR := hR.prop [V.int .i64 kind, V.int .i64 from_, V.int .i64 port, V.int .i64 way]
       generalize upd s b8 [V.int .i64 kind, V.int .i64 from_, V.int .i64 port, V.int .i64 way] = s at *
       clear hP)
    | (have h : tb = false := by simpa using htb
       subst h
       simp only [Bool.false_eq_true, if_false]
       obtain ⟨port, hport⟩ : ∃ w : Int, w = -1 := ⟨-1, rfl⟩
       have hR : RA σ n rb b8 b4 st1 [V.int .i64 kind, V.int .i64 from_, V.int .i64 port, V.int .i64 way] s := by rw [hport]; exact hR
       rw [← hport]
       simp (disch := omega) only [k7, go_sem])
  all_goals
    refine SRun.callR (takes_ok hwst.1 hR.ask_) ⟨[], rfl, rfl⟩ rfl ?_
    have hwst := hwst.takes (x := wFail)
    have hR := hR.ask (takesP wFail st1).2
    change W _ _ _ _ _ _ ((47, .bool (takesP wFail st1).1) :: _) (upd s rb (askC n (takesP wFail st1).2))
    generalize ho : takesP wFail st1 = tk at *
    obtain ⟨tb, st2⟩ := tk
    have hopt : optI wFail 2 0 st1 = if tb then numberP 2 st2 else (0, st2) := by simp [optI, ho]
    rw [hopt]
    dsimp only at *
    clear hopt ho
    generalize upd s rb (askC n st2) = s at *
    by_cases htb2 : tb = true
  all_goals first
    | (have h : tb = true := htb2
       subst h
       simp only [if_true]
       simp (disch := omega) only [k7, go_sem]
       refine SRun.callR (number_okA hg hwst.1 hwst.2 hR.ask_) ⟨[], rfl, rfl⟩ rfl ?_
       have hR := hR.ask (numberP 2 st2).2
       have hwst := hwst.number (hi := 2)
       generalize numberP 2 st2 = pr at *
       obtain ⟨kf, st2⟩ := pr
       dsimp only at *
       generalize upd s rb (askC n st2) = s at *
       have hd : decide ((st2.1.length : Int) = 0) = decide (st2.1 = []) := by
         cases st2.1 <;> simp <;> omega
       have hA := hR.ask_
       unfold askC at hA
       simp (disch := omega) only [k7, hA, hd, go_sem]
       clear hA)
    | (have h : tb = false := by simpa using htb2
       subst h
       simp only [Bool.false_eq_true, if_false]
       have hd : decide ((st2.1.length : Int) = 0) = decide (st2.1 = []) := by
         cases st2.1 <;> simp <;> omega
       have hA := hR.ask_
       unfold askC at hA
       simp (disch := omega) only [k7, hA, hd, go_sem]
       clear hA)
  all_goals
    refine SRun.callR (must_ok hR.ask_) ⟨[], rfl, rfl⟩ rfl ?_
    have hR := hR.ask (mustP (decide (st2.1 = [])) st2)
    unfold endI
    generalize mustP (decide (st2.1 = [])) st2 = st3 at *
    generalize upd s rb (askC n st3) = s at *
    have hA := hR.ask_
    unfold askC at hA
    have hP := hR.prop_
    have hS := hR.res_
    unfold zero4 at hS
    by_cases hc : st3.2 = 0
  all_goals first
    | (have hc' : st3.2 = 0 := hc
       have dc : (decide ¬ (st3.2 = 0)) = false := decide_eq_false (by simp [hc'])
       simp only [hc', ne_eq, not_true_eq_false, if_false]
       rw [hc'] at hA dc
       simp (disch := omega) only [k7, hA, dc, k8, hP, k4, hS, go_sem]
       have hF : ∀ cs d x, σ d = some x → upd s b4 cs d = some x := fun cs d x hd => by rw [upd_ne _ _ (e42 d x hd)]; exact hR.le_ d x hd
       refine W_retE c36_ok (hF _) ?_
       show resV [.cell 4 true 4, .t 5, .t 6] _ _ = _
       simp [resV, resV1, look, k4, upd_same, AskR.bad])
    | (have hc' : ¬ st3.2 = 0 := hc
       have dc : (decide ¬ (st3.2 = 0)) = true := decide_eq_true hc'
       simp only [ne_eq, hc', not_false_eq_true, if_true]
       simp (disch := omega) only [k7, hA, dc, k8, hP, k4, hS, go_sem]
       have hF : ∀ cs d x, σ d = some x → upd s b4 cs d = some x := fun cs d x hd => by rw [upd_ne _ _ (e42 d x hd)]; exact hR.le_ d x hd
       rw [W_draw]
       have hAd := hA
       rw [← del_ne s er4] at hAd
       refine DRun.start (DRun.mix1 hS rfl ?_)
       simp (disch := omega) only [k7, hAd, k4, go_sem]
       refine DS.wrQ (WrF.store (by simp only [ev, look_cons]; simpa [look] using k4) (upd_same emp b4 _) rfl (by simp [ev, look, V.cells, V.one]) (by simp)) rfl ?_
       rintro _ sx ⟨_, rfl⟩ _
       rw [upd_upd]
       simp (disch := omega) only [V.cells, go_sem]
       refine ⟨_, rfl, ?_⟩
       try simp (disch := omega) only [go_sem]
       refine W_retE c36_ok (hF _) ?_
       show resV [.cell 4 true 4, .t 5, .t 6] _ _ = _
       simp [resV, resV1, look, k4, upd_same, AskR.bad])
end Go.Proofs.YtjibkkhgejcjeaaGreatDoor.Lg
