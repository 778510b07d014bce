/- A question read, by the program. -/
import Derived.Test.YtjibkkhgejcjeaaGreatDoorYd
import Derived.Test.YtjibkkhgejcjeaaGreatDoorBg
set_option linter.unusedSimpArgs false
set_option linter.unusedVariables false
namespace Go.Proofs.YtjibkkhgejcjeaaGreatDoor.Lg
open Go Go.Lib
attribute [local irreducible] SRun DS DRun
variable {Γ : St} {σ σ0 : St}
/-- What the program answers. -/
def readAI (n : Net) (s : List UInt8) : AskR := if 65536 < s.length then .bad 2 else if netB n = false then .bad 1 else askI n.routers (wordsT s [])
theorem wordsT_AskW {s : List UInt8} (h : s.length ≤ 65536) (hL : (wordsT s []).length ≤ s.length + 1) (hM : ∀ w ∈ wordsT s [], w.length ≤ s.length) : AskW (wordsT s [], 0) := ⟨by simp only; omega, fun w hw => by have := hM w hw; omega⟩
theorem ReadAsk_ok (hg : NumG Γ) (hk : Γ 0 = some (strsV kindsP)) {n : Net} {s : List UInt8} (hn : NetLen n) (hr : n.routers.length ≤ 1000000000) (hW : s.length ≤ 65536 → AskW (wordsT s [], 0)) :
    Ret Tryz.prog Γ 9 [netV n, .str s] σ (.tup [.agg (prop4 (readAI n s).kind (readAI n s).from_ (readAI n s).port (readAI n s).way), .int .i64 (readAI n s).k, .int .i64 (readAI n s).code]) σ := by
  unfold readAI
  have hlen : (netC n).take 6 = netC n := rfl
  have hlen2 : (netC n).length = 6 := rfl
  refine ret_of c9_ok rfl ?_
  simp (disch := omega) only [c9, netV, go_sem]
  refine SRun.boxR (net_one n) ?_
  intro b2 hb2
  have g2 := upd_same σ b2 (netC n)
  have hσ : ∀ d x, σ d = some x → upd σ b2 (netC n) d = some x := le_upd hb2
  simp (disch := omega) only [go_sem]
  generalize upd σ b2 (netC n) = s1 at *
  refine SRun.allocR ?_
  intro b4 hb4
  have g4 := upd_same s1 b4 zero4
  have e24 : b2 ≠ b4 := fun e => by subst e; rw [hb4] at g2; cases g2
  have g2 : upd s1 b4 zero4 b2 = some (netC n) := by rw [upd_ne _ _ e24]; exact g2
  have e42 : ∀ d x, σ d = some x → d ≠ b4 := fun d x hd e => by subst e; rw [hσ d x hd] at hb4; cases hb4
  have hσ : ∀ d x, σ d = some x → upd s1 b4 zero4 d = some x := fun d x hd => le_upd hb4 d x (hσ d x hd)
  change W _ _ _ _ _ _ _ (upd s1 b4 zero4)
  generalize upd s1 b4 zero4 = s2 at *
  have hF : ∀ cs d x, σ d = some x → upd s2 b4 cs d = some x := fun cs d x hd => by rw [upd_ne _ _ (e42 d x hd)]; exact hσ d x hd
  unfold zero4 at g4
  by_cases hl : 65536 < s.length
  · have d0 : decide ((s.length : Int) > 65536) = true := decide_eq_true (by omega)
    simp only [if_pos hl]
    simp (disch := omega) only [d0, g4, go_sem]
    refine W_retE c9_ok (hF _) ?_
    show resV [.cell 4 true 4, .t 5, .t 6] _ _ = _
    simp [resV, resV1, look, upd_same, AskR.bad, prop4]
  · have d0 : decide ((s.length : Int) > 65536) = false := decide_eq_false (by omega)
    have hA := hW (by omega)
    simp only [if_neg hl]
    simp (disch := omega) only [d0, g2, hlen, hlen2, go_sem]
    refine SRun.callR (isNet_ok hn) ⟨[], rfl, rfl⟩ rfl ?_
    cases hb : netB n with
    | false =>
      simp (disch := omega) only [g4, go_sem]
      refine W_retE c9_ok (hF _) ?_
      show resV [.cell 4 true 4, .t 5, .t 6] _ _ = _
      simp [resV, resV1, look, upd_same, AskR.bad, prop4]
    | true =>
      simp (disch := omega) only [go_sem]
      rw [W_draw]
      refine DRun.start (DRun.mixE rfl ?_)
      simp (disch := omega) only [g2, hlen, hlen2, go_sem]
      refine DS.callB (lineWords_ok (by omega)) ⟨[], rfl, rfl⟩ rfl rfl ?_
      simp (disch := omega) only [true_and, go_sem]
      refine DRun.callQ (readAsk_ok hg hk hr hA) ⟨[], rfl, rfl⟩ ?_
      rintro _ _ ⟨rfl, rfl⟩
      simp (disch := omega) only [g4, prop4, go_sem]
      refine W_retE c9_ok (hF _) ?_
      show resV [.cell 4 true 4, .t 5, .t 6] _ _ = _
      simp [resV, resV1, look, upd_same, prop4]
end Go.Proofs.YtjibkkhgejcjeaaGreatDoor.Lg
/- A question read, by the reference: over what its reader of words (spec.l10Ask) answers. -/
set_option linter.unusedSimpArgs false
set_option linter.unusedVariables false
namespace Go.Proofs.YtjibkkhgejcjeaaGreatDoor.Lg
open Go Go.Lib
attribute [local irreducible] SRun DS DRun
variable {Γ : St} {σ σ0 : St}
/-- What the reference answers. -/
def readAS (n : Net) (s : List UInt8) : AskR := if 65536 < s.length then .bad 2 else if netB n = false then .bad 1 else askS n.routers (wordsT s [])
theorem readAI_S (n : Net) (s : List UInt8) : readAI n s = readAS n s := by unfold readAI readAS; rw [ask_both]
theorem ReadAskS_of {n : Net} {s : List UInt8} (hn : NetLen n) (hr : n.routers.length ≤ 1000000000) (hW : s.length ≤ 65536 → AskW (wordsT s [], 0)) (hq : s.length ≤ 65536 → ∀ σ, Ret Tryz.prog Γ 28 [netV n, .isl false 1 (strsV (wordsT s []))] σ (.tup [.agg (prop4 (askS n.routers (wordsT s [])).kind (askS n.routers (wordsT s [])).from_ (askS n.routers (wordsT s [])).port (askS n.routers (wordsT s [])).way), .int .i64 (askS n.routers (wordsT s [])).k, .int .i64 (askS n.routers (wordsT s [])).code]) σ) :
    Ret Tryz.prog Γ 7 [netV n, .str s] σ (.tup [.agg (prop4 (readAS n s).kind (readAS n s).from_ (readAS n s).port (readAS n s).way), .int .i64 (readAS n s).k, .int .i64 (readAS n s).code]) σ := by
  unfold readAS
  have hlen : (netC n).take 6 = netC n := rfl
  have hlen2 : (netC n).length = 6 := rfl
  refine ret_of c7_ok rfl ?_
  simp (disch := omega) only [c7, netV, go_sem]
  refine SRun.boxR (net_one n) ?_
  intro b2 hb2
  have g2 := upd_same σ b2 (netC n)
  have hσ : ∀ d x, σ d = some x → upd σ b2 (netC n) d = some x := le_upd hb2
  simp (disch := omega) only [go_sem]
  generalize upd σ b2 (netC n) = s1 at *
  refine SRun.allocR ?_
  intro b4 hb4
  have g4 := upd_same s1 b4 zero4
  have e24 : b2 ≠ b4 := fun e => by subst e; rw [hb4] at g2; cases g2
  have g2 : upd s1 b4 zero4 b2 = some (netC n) := by rw [upd_ne _ _ e24]; exact g2
  have e42 : ∀ d x, σ d = some x → d ≠ b4 := fun d x hd e => by subst e; rw [hσ d x hd] at hb4; cases hb4
  have hσ : ∀ d x, σ d = some x → upd s1 b4 zero4 d = some x := fun d x hd => le_upd hb4 d x (hσ d x hd)
  change W _ _ _ _ _ _ _ (upd s1 b4 zero4)
  generalize upd s1 b4 zero4 = s2 at *
  have hF : ∀ cs d x, σ d = some x → upd s2 b4 cs d = some x := fun cs d x hd => by rw [upd_ne _ _ (e42 d x hd)]; exact hσ d x hd
  unfold zero4 at g4
  by_cases hl : 65536 < s.length
  · have d0 : decide ((s.length : Int) > 65536) = true := decide_eq_true (by omega)
    simp only [if_pos hl]
    simp (disch := omega) only [d0, g4, go_sem]
    refine W_retE c7_ok (hF _) ?_
    show resV [.cell 4 true 4, .t 5, .t 6] _ _ = _
    simp [resV, resV1, look, upd_same, AskR.bad, prop4]
  · have d0 : decide ((s.length : Int) > 65536) = false := decide_eq_false (by omega)
    have hA := hW (by omega)
    simp only [if_neg hl]
    simp (disch := omega) only [d0, g2, hlen, hlen2, go_sem]
    refine SRun.callR (NetOK_ok hn) ⟨[], rfl, rfl⟩ rfl ?_
    cases hb : netB n with
    | false =>
      simp (disch := omega) only [g4, go_sem]
      refine W_retE c7_ok (hF _) ?_
      show resV [.cell 4 true 4, .t 5, .t 6] _ _ = _
      simp [resV, resV1, look, upd_same, AskR.bad, prop4]
    | true =>
      simp (disch := omega) only [go_sem]
      rw [W_draw]
      refine DRun.start (DRun.mixE rfl ?_)
      simp (disch := omega) only [g2, hlen, hlen2, go_sem]
      refine DS.callB (l00Words_ok (by omega)) ⟨[], rfl, rfl⟩ rfl rfl ?_
      simp (disch := omega) only [true_and, go_sem]
      refine DRun.callQ (hq (by omega) _) ⟨[], rfl, rfl⟩ ?_
      rintro _ _ ⟨rfl, rfl⟩
      simp (disch := omega) only [g4, prop4, go_sem]
      refine W_retE c7_ok (hF _) ?_
      show resV [.cell 4 true 4, .t 5, .t 6] _ _ = _
      simp [resV, resV1, look, upd_same, prop4]
end Go.Proofs.YtjibkkhgejcjeaaGreatDoor.Lg
/- The words of a question read by the reference. -/
set_option linter.unusedSimpArgs false
set_option linter.unusedVariables false
namespace Go.Proofs.YtjibkkhgejcjeaaGreatDoor.Lg
open Go Go.Lib
attribute [local irreducible] SRun DS DRun
variable {Γ : St} {σ σ0 : St}
section
variable {P : Program} {f : FuncId} {n : Nat} {Q : V → St → Prop} {k : List It} {T : Ts}
end
/-- What comes after `via`. -/
def wayS (rs : List Wrd) (kind fr : Int) (rest : List Wrd) : AskR := match rest with
  | va :: ww :: r2 => if va ≠ wVia then .bad 4 else if idxP rs ww < 0 then .bad 9 else tailS kind fr (idxP rs ww) r2
  | _ => .bad 4
theorem askS_cons (rs : List Wrd) (v kw fw : Wrd) (rest : List Wrd) : askS rs (v :: kw :: fw :: rest) = (if v ≠ wVerify then .bad 4 else if idxP kindsP kw < 1 then .bad 4 else if idxP rs fw < 0 then .bad 9 else if idxP kindsP kw = 3 then wayS rs (idxP kindsP kw) (idxP rs fw) rest else tailS (idxP kindsP kw) (idxP rs fw) 0 rest) := rfl
def endS (kind fr port way k : Int) (rest : List Wrd) : AskR := if rest ≠ [] then .bad 4 else ⟨kind, fr, port, way, k, 0⟩
def failS (kind fr port way : Int) (rest : List Wrd) : AskR := if (optS wFail 2 0 rest).1 ≠ 0 then .bad (optS wFail 2 0 rest).1 else endS kind fr port way (optS wFail 2 0 rest).2.1 (optS wFail 2 0 rest).2.2
theorem tailS_eq (kind fr way : Int) (rest : List Wrd) : tailS kind fr way rest = if (optS wPort 15 (-1) rest).1 ≠ 0 then .bad (optS wPort 15 (-1) rest).1 else failS kind fr (optS wPort 15 (-1) rest).2.1 way (optS wPort 15 (-1) rest).2.2 := rfl
theorem optS_no {word : Wrd} {hi d : Int} {r : List Wrd} (h : ∀ b r2, r ≠ word :: b :: r2) : optS word hi d r = (0, d, r) := by
  unfold optS
  split
  · rename_i a b r2
    have : ¬ a = word := fun e => h b r2 (by rw [e])
    rw [if_neg this]
  · rfl
set_option maxHeartbeats 1000000 in
theorem l10Ask_ok {n : Net} {ws : List Wrd} (hr : n.routers.length ≤ 1000000000) (hws : AskW (ws, 0)) :
    Ret Tryz.prog Γ 28 [netV n, .isl false 1 (strsV ws)] σ (.tup [.agg (prop4 (askS n.routers ws).kind (askS n.routers ws).from_ (askS n.routers ws).port (askS n.routers ws).way), .int .i64 (askS n.routers ws).k, .int .i64 (askS n.routers ws).code]) σ := by
  refine ret_of c28_ok rfl ?_
  simp (disch := omega) only [c28, netV, go_sem]
  refine SRun.boxR (net_one n) ?_
  intro b2 hb2
  have g2 := upd_same σ b2 (netC n)
  have hσ : ∀ d x, σ d = some x → upd σ b2 (netC n) d = some x := le_upd hb2
  simp (disch := omega) only [go_sem]
  generalize upd σ b2 (netC n) = s1 at *
  refine SRun.allocR ?_
  intro b4 hb4
  have g4 := upd_same s1 b4 zero4
  have e24 : b2 ≠ b4 := fun e => by subst e; rw [hb4] at g2; cases g2
  have g2 : upd s1 b4 zero4 b2 = some (netC n) := by rw [upd_ne _ _ e24]; exact g2
  have e42 : ∀ d x, σ d = some x → d ≠ b4 := fun d x hd e => by subst e; rw [hσ d x hd] at hb4; cases hb4
  have hσ : ∀ d x, σ d = some x → upd s1 b4 zero4 d = some x := fun d x hd => le_upd hb4 d x (hσ d x hd)
  change W _ _ _ _ _ _ _ (upd s1 b4 zero4)
  generalize upd s1 b4 zero4 = s2 at *
  simp (disch := omega) only [go_sem]
  refine SRun.allocR ?_
  intro b7 hb7
  have g7 := upd_same s2 b7 zero4
  have e74 : b7 ≠ b4 := fun e => by subst e; rw [hb7] at g4; cases g4
  have e72 : b7 ≠ b2 := fun e => by subst e; rw [hb7] at g2; cases g2
  have g4 : upd s2 b7 zero4 b4 = some zero4 := by rw [upd_ne _ _ e74.symm]; exact g4
  have g2 : upd s2 b7 zero4 b2 = some (netC n) := by rw [upd_ne _ _ e72.symm]; exact g2
  have hσ : ∀ d x, σ d = some x → upd s2 b7 zero4 d = some x := fun d x hd => le_upd hb7 d x (hσ d x hd)
  change W _ _ _ _ _ _ _ (upd s2 b7 zero4)
  generalize upd s2 b7 zero4 = s3 at *
  unfold zero4 at g7 g4
  have hs3 : upd s3 b7 [V.int .i64 0, V.int .i64 0, V.int .i64 0, V.int .i64 0] = s3 := upd_self _ g7
  have hF : ∀ cs d x, σ d = some x → upd s3 b4 cs d = some x := fun cs d x hd => by rw [upd_ne _ _ (e42 d x hd)]; exact hσ d x hd
  have hsl := strsV_len ws
  by_cases h3 : ws.length < 3
  · have d0 : decide ((ws.length : Int) < 3) = true := decide_eq_true (by omega)
    have hb : askS n.routers ws = .bad 4 := by
      unfold askS
      rcases ws with _ | ⟨v, _ | ⟨kw, _ | ⟨fw, r⟩⟩⟩ <;> first | rfl | (simp at h3; omega)
    rw [hb]
    simp (disch := omega) only [g7, hs3, d0, g4, go_sem]
    refine W_retE c28_ok (hF _) ?_
    show resV [.cell 4 true 4, .t 5, .t 6] _ _ = _
    simp [resV, resV1, look, upd_same, AskR.bad, prop4]
  have d0 : decide ((ws.length : Int) < 3) = false := decide_eq_false (by omega)
  obtain ⟨v, kw, fw, rest, rfl⟩ : ∃ v kw fw rest, ws = v :: kw :: fw :: rest := by
    rcases ws with _ | ⟨v, _ | ⟨kw, _ | ⟨fw, r⟩⟩⟩ <;> first | exact ⟨_, _, _, _, rfl⟩ | (simp at h3)
  have g0 : (v :: kw :: fw :: rest).getD 0 [] = v := rfl
  have g1 : (v :: kw :: fw :: rest).getD 1 [] = kw := rfl
  have g3 : (v :: kw :: fw :: rest).getD 2 [] = fw := rfl
  have hp0 : 0 < (v :: kw :: fw :: rest).length := by simp
  have hp1 : 1 < (v :: kw :: fw :: rest).length := by simp
  have hp2 : 2 < (v :: kw :: fw :: rest).length := by simp
  by_cases hv : v = wVerify
  case' neg =>
    have dv : (!(v == [118, 101, 114, 105, 102, 121])) = true := by simpa [wVerify] using hv
    have hb : askS n.routers (v :: kw :: fw :: rest) = .bad 4 := by simp [askS, hv]
    rw [hb]
    simp (disch := omega) only [g7, hs3, d0, g4, g0, dv, go_sem]
    refine W_retE c28_ok (hF _) ?_
    show resV [.cell 4 true 4, .t 5, .t 6] _ _ = _
    simp [resV, resV1, look, upd_same, AskR.bad, prop4]
  have dv : (!(v == [118, 101, 114, 105, 102, 121])) = false := by simp [hv, wVerify]
  simp (disch := omega) only [g7, hs3, d0, g4, g0, dv, go_sem]
  rw [W_draw]
  have hcs0 : (netC n).getD 0 .undef = .isl false 1 (strsV n.routers) := rfl
  have hcs1 : (netC n)[0]? = some (.isl false 1 (strsV n.routers)) := rfl
  have hlen2 : (netC n).length = 6 := rfl
  have hkl : kindsP.length ≤ 1000000000000 := by decide
  have hrl : n.routers.length ≤ 1000000000000 := by omega
  refine DRun.start (DRun.mixNR (fun T s' => ∃ b8, s3 b8 = none ∧ s' = upd emp b8 zero4 ∧ look T 1 = .isl false 1 (strsV (v :: kw :: fw :: rest)) ∧ look T 2 = .ptr b2 0 ∧ look T 4 = .ptr b4 0 ∧ look T 7 = .ptr b7 0 ∧ look T 8 = .ptr b8 0 ∧ look T 38 = .agg (prop4 (idxP kindsP kw) (idxP n.routers fw) (-1) 0)) rfl ?_ ?_)
  · simp (disch := omega) only [g1, g2, g3, hcs0, hcs1, hlen2, go_sem]
    have C1 := fun σ => l06Place_ok (Γ := Γ) (σ := σ) (ex := true) (ss := kindsP) (w := kw) hkl
    have C2 := fun σ => l06Place_ok (Γ := Γ) (σ := σ) (ex := false) (ss := n.routers) (w := fw) hrl
    have hfree : ∀ {b8 : Nat} {y : List V}, disj (upd emp b8 y) s3 → s3 b8 = none := fun {b8 y} hd => (hd b8).resolve_left (by rw [upd_same]; simp)
    refine DS.wr2 (WrF.call (C1 _) ⟨[], rfl, rfl⟩) rfl ?_ ?_
    · rintro _ _ ⟨rfl, rfl⟩ hd
      simp (disch := omega) only [go_sem]
      refine DS.wr2 (WrF.call (C2 _) ⟨[], rfl, rfl⟩) rfl ?_ ?_
      · rintro _ _ ⟨rfl, rfl⟩ hd
        simp (disch := omega) only [go_sem]
        refine DS.wrQ WrF.alloc rfl ?_
        rintro _ s9 ⟨b8, hb8, rfl, rfl⟩ hd9
        refine ⟨b8, hfree hd9, rfl, ?_⟩
        (repeat' apply And.intro) <;> rfl
      · refine DS.wrQ WrF.alloc rfl ?_
        rintro _ s9 ⟨b8, hb8, rfl, rfl⟩ hd9
        simp (disch := omega) only [go_sem]
        refine DS.wrQ (WrF.call (C2 _) ⟨[], rfl, rfl⟩) rfl ?_
        rintro _ _ ⟨rfl, rfl⟩ hd
        simp (disch := omega) only [go_sem]
        refine ⟨b8, hfree hd9, rfl, ?_⟩
        (repeat' apply And.intro) <;> rfl
    · refine DS.wrQ WrF.alloc rfl ?_
      rintro _ s9 ⟨b8, hb8, rfl, rfl⟩ hd9
      simp (disch := omega) only [go_sem]
      refine DS.wrQ (WrF.call (C1 _) ⟨[], rfl, rfl⟩) rfl ?_
      rintro _ _ ⟨rfl, rfl⟩ hd
      simp (disch := omega) only [go_sem]
      refine DS.wrQ (WrF.call (C2 _) ⟨[], rfl, rfl⟩) rfl ?_
      rintro _ _ ⟨rfl, rfl⟩ hd
      simp (disch := omega) only [go_sem]
      refine ⟨b8, hfree hd9, rfl, ?_⟩
      (repeat' apply And.intro) <;> rfl
  rintro T s' ⟨b8, f2, rfl, k1, k2, k4, k7, k8, k38⟩
  have hcup : cup (upd emp b8 zero4) s3 = upd s3 b8 zero4 := by
    funext m; by_cases e : m = b8 <;> simp [cup, upd, emp, e]
  rw [hcup]
  have e84 : b8 ≠ b4 := fun e => by subst e; rw [f2] at g4; cases g4
  have e87 : b8 ≠ b7 := fun e => by subst e; rw [f2] at g7; cases g7
  have e82 : b8 ≠ b2 := fun e => by subst e; rw [f2] at g2; cases g2
  have g8 := upd_same s3 b8 zero4
  have g4 : upd s3 b8 zero4 b4 = some [V.int .i64 0, V.int .i64 0, V.int .i64 0, V.int .i64 0] := by rw [upd_ne _ _ e84.symm]; exact g4
  have g7 : upd s3 b8 zero4 b7 = some [V.int .i64 0, V.int .i64 0, V.int .i64 0, V.int .i64 0] := by rw [upd_ne _ _ e87.symm]; exact g7
  have g2 : upd s3 b8 zero4 b2 = some (netC n) := by rw [upd_ne _ _ e82.symm]; exact g2
  have hσ0 := hσ
  have hσ : ∀ d x, σ d = some x → upd s3 b8 zero4 d = some x := fun d x hd => le_upd f2 d x (hσ d x hd)
  generalize upd s3 b8 zero4 = s4 at *
  generalize hkd : idxP kindsP kw = kind at *
  generalize hfr : idxP n.routers fw = fr at *
  unfold zero4 at g8
  simp (disch := omega) only [k8, k38, g8, prop4, go_sem]
  have g7s : s4 b7 = some [V.int .i64 0, V.int .i64 0, V.int .i64 0, V.int .i64 0] := g7
  have g4s : s4 b4 = some [V.int .i64 0, V.int .i64 0, V.int .i64 0, V.int .i64 0] := g4
  have hF : ∀ pc cs d x, σ d = some x → upd (upd s4 b8 pc) b4 cs d = some x := fun pc cs d x hd => by
    have h8 : d ≠ b8 := fun e => by subst e; have := (hσ0 _ _ hd); rw [f2] at this; cases this
    rw [upd_ne _ _ (e42 d x hd), upd_ne _ _ h8]; exact hσ d x hd
  have g8' := upd_same s4 b8 [V.int .i64 kind, V.int .i64 fr, V.int .i64 (-1), V.int .i64 0]
  have g7 : upd s4 b8 [V.int .i64 kind, V.int .i64 fr, V.int .i64 (-1), V.int .i64 0] b7 = some [V.int .i64 0, V.int .i64 0, V.int .i64 0, V.int .i64 0] := by rw [upd_ne _ _ e87.symm]; exact g7
  have g4 : upd s4 b8 [V.int .i64 kind, V.int .i64 fr, V.int .i64 (-1), V.int .i64 0] b4 = some [V.int .i64 0, V.int .i64 0, V.int .i64 0, V.int .i64 0] := by rw [upd_ne _ _ e84.symm]; exact g4
  by_cases hk1 : kind < 1
  · have dk : decide (kind < 1) = true := decide_eq_true hk1
    have hb : askS n.routers (v :: kw :: fw :: rest) = .bad 4 := by simp [askS, hv, hkd, hk1]
    rw [hb]
    simp (disch := omega) only [k7, k4, g7, g4, dk, go_sem]
    refine W_retE c28_ok (hF _ _) ?_
    show resV [.cell 4 true 4, .t 5, .t 6] _ _ = _
    simp [resV, resV1, look, k4, upd_same, AskR.bad, prop4]
  have dk : decide (kind < 1) = false := decide_eq_false hk1
  by_cases hf0 : fr < 0
  · have df : decide (fr < 0) = true := decide_eq_true hf0
    have hb : askS n.routers (v :: kw :: fw :: rest) = .bad 9 := by simp [askS, hv, hkd, hk1, hfr, hf0]
    rw [hb]
    simp (disch := omega) only [k7, k4, k8, g7, g4, dk, df, g8', go_sem]
    refine W_retE c28_ok (hF _ _) ?_
    show resV [.cell 4 true 4, .t 5, .t 6] _ _ = _
    simp [resV, resV1, look, k4, upd_same, AskR.bad, prop4]
  have df : decide (fr < 0) = false := decide_eq_false hf0
  simp (disch := omega) only [k1, k7, k4, k8, g7, g4, dk, df, g8', go_sem]
  have hdr : List.take (((rest.length + 1 + 1 + 1 : Nat) : Int) - 3).toNat (List.drop 3 (strsV (v :: kw :: fw :: rest))) = strsV rest := by
    rw [show (((rest.length + 1 + 1 + 1 : Nat) : Int) - 3).toNat = (strsV rest).length by rw [strsV_len]; omega]
    exact List.take_length
  rw [hdr]
  have hwr : AskW (rest, 0) := ⟨by have := hws.1; simp only [List.length_cons] at this ⊢; omega, fun w hw => hws.2 w (by simp only; exact List.mem_cons_of_mem _ (List.mem_cons_of_mem _ (List.mem_cons_of_mem _ hw)))⟩
  have hA : askS n.routers (v :: kw :: fw :: rest) = (if kind = 3 then wayS n.routers kind fr rest else tailS kind fr 0 rest) := by rw [askS_cons, hkd, hfr, if_neg (by simpa using hv), if_neg hk1, if_neg hf0]
  rw [hA]
  clear hA hdr hws hsl
  by_cases h3 : kind = 3
  case' pos =>
    have d3 : decide (kind = 3) = true := decide_eq_true h3
    simp only [if_pos h3]
    by_cases h2 : rest.length < 2
    · have d5 : decide ((rest.length : Int) < 2) = true := decide_eq_true (by omega)
      have hb : wayS n.routers kind fr rest = .bad 4 := by
        rcases rest with _ | ⟨va, _ | ⟨ww, r2⟩⟩ <;> first | rfl | (simp at h2; omega)
      rw [hb]
      simp (disch := omega) only [d3, d5, k7, k4, k8, g7, g4, g8', strsV_len, go_sem]
      refine W_retE c28_ok (hF _ _) ?_
      show resV [.cell 4 true 4, .t 5, .t 6] _ _ = _
      simp [resV, resV1, look, k4, upd_same, AskR.bad, prop4]
    obtain ⟨va, ww, r2, rfl⟩ : ∃ va ww r2, rest = va :: ww :: r2 := by
      rcases rest with _ | ⟨va, _ | ⟨ww, r2⟩⟩ <;> first | exact ⟨_, _, _, rfl⟩ | (simp at h2)
    have d5 : decide (((va :: ww :: r2).length : Int) < 2) = false := decide_eq_false (by simp only [List.length_cons]; omega)
    have q0 : (va :: ww :: r2).getD 0 [] = va := rfl
    have q1 : (va :: ww :: r2).getD 1 [] = ww := rfl
    have hq0 : 0 < (va :: ww :: r2).length := by simp
    have hq1 : 1 < (va :: ww :: r2).length := by simp
    unfold wayS
    simp only
    by_cases hva : va = wVia
    case' neg =>
      have dva : (!(va == [118, 105, 97])) = true := by simpa [wVia] using hva
      rw [if_pos hva]
      simp (disch := omega) only [d3, d5, q0, dva, k7, k4, k8, g7, g4, g8', strsV_len, go_sem]
      refine W_retE c28_ok (hF _ _) ?_
      show resV [.cell 4 true 4, .t 5, .t 6] _ _ = _
      simp [resV, resV1, look, k4, upd_same, AskR.bad, prop4]
    have dva : (!(va == [118, 105, 97])) = false := by simp [hva, wVia]
    rw [if_neg (by simpa using hva)]
    have g2' : upd s4 b8 [V.int .i64 kind, V.int .i64 fr, V.int .i64 (-1), V.int .i64 0] b2 = some (netC n) := by rw [upd_ne _ _ e82.symm]; exact g2
    simp (disch := omega) only [d3, d5, q0, q1, dva, k7, k4, k8, k2, g7, g4, g8', g2', hcs0, hcs1, hlen2, strsV_len, go_sem]
    refine W_drawW ?_
    simp (disch := omega) only [k2, g2', hcs0, hcs1, hlen2, q1, go_sem]
    have C3 := fun σ => l06Place_ok (Γ := Γ) (σ := σ) (ex := false) (ss := n.routers) (w := ww) hrl
    rw [show placeP n.routers ww = idxP n.routers ww from rfl] at C3
    refine DRun.callQ (C3 _) ⟨[], rfl, rfl⟩ ?_
    rintro _ _ ⟨rfl, rfl⟩
    generalize idxP n.routers ww = way at *
    clear C3
    by_cases hw0 : way < 0
    · have dw : decide (way < 0) = true := decide_eq_true hw0
      have g7 : upd s4 b8 [V.int .i64 kind, V.int .i64 fr, V.int .i64 (-1), V.int .i64 way] b7 = some [V.int .i64 0, V.int .i64 0, V.int .i64 0, V.int .i64 0] := by rw [upd_ne _ _ e87.symm, ← upd_ne s4 _ e87.symm]; exact g7
      have g4 : upd s4 b8 [V.int .i64 kind, V.int .i64 fr, V.int .i64 (-1), V.int .i64 way] b4 = some [V.int .i64 0, V.int .i64 0, V.int .i64 0, V.int .i64 0] := by rw [upd_ne _ _ e84.symm, ← upd_ne s4 _ e84.symm]; exact g4
      rw [if_pos hw0]
      simp (disch := omega) only [k2, k8, k7, k4, g8', upd_same, upd_upd, dw, g7, g4, go_sem]
      refine W_retE c28_ok (hF _ _) ?_
      show resV [.cell 4 true 4, .t 5, .t 6] _ _ = _
      simp [resV, resV1, look, k4, upd_same, AskR.bad, prop4]
    have dw : decide (way < 0) = false := decide_eq_false hw0
    rw [if_neg hw0]
    have hdr : List.take (((r2.length + 1 + 1 : Nat) : Int) - 2).toNat (List.drop 2 (strsV (va :: ww :: r2))) = strsV r2 := by
      rw [show (((r2.length + 1 + 1 : Nat) : Int) - 2).toNat = (strsV r2).length by rw [strsV_len]; omega]
      exact List.take_length
    simp (disch := omega) only [k2, k8, k7, k4, g8', upd_same, upd_upd, dw, strsV_len, go_sem]
    simp only [hdr]
    have hwr : AskW (r2, 0) := ⟨by have := hwr.1; simp only [List.length_cons] at this ⊢; omega, fun w hw => hwr.2 w (by simp only; exact List.mem_cons_of_mem _ (List.mem_cons_of_mem _ hw))⟩
    clear g2' g8' g4 g7 hkl hdr dw hw0 q0 q1 hq0 hq1 d5 h2 d3
    obtain ⟨rest, hrest⟩ : ∃ r, r = r2 := ⟨_, rfl⟩
    rw [← hrest] at hwr ⊢
  case' neg =>
    have d3 : decide (kind = 3) = false := decide_eq_false h3
    simp only [if_neg h3]
    obtain ⟨way, hway⟩ : ∃ w : Int, w = 0 := ⟨0, rfl⟩
    have e0 : V.int .i64 (0 : Int) = V.int .i64 way := by rw [hway]
    have et : tailS kind fr 0 rest = tailS kind fr way rest := by rw [hway]
    rw [et]
    simp (disch := omega) only [d3, k2, k8, k7, k4, g8', go_sem]
    rw [show upd s4 b8 [V.int .i64 kind, V.int .i64 fr, V.int .i64 (-1), V.int .i64 0] = upd s4 b8 [V.int .i64 kind, V.int .i64 fr, V.int .i64 (-1), V.int .i64 way] by rw [hway]]
    clear g8' g4 g7 hkl e0 et
  -- LOOP
  all_goals
    clear hrl hcs0 hcs1 hlen2 hp0 hp1 hp2 g0 g1 g3 dk df d0
    have hF2 : ∀ pc cs d x, σ d = some x → upd (upd s4 b8 pc) b4 cs d = some x := hF
    clear hF
    have w0 : [wPort, wFail].getD 0 [] = wPort := rfl
    have w1 : [wPort, wFail].getD 1 [] = wFail := rfl
    have wl0 : 0 < [wPort, wFail].length := by simp
    have wl1 : 1 < [wPort, wFail].length := by simp
    have t0 : ([15, 2] : List Int).getD 0 0 = 15 := rfl
    have t1 : ([15, 2] : List Int).getD 1 0 = 2 := rfl
    have tl0 : 0 < ([15, 2] : List Int).length := by simp
    have tl1 : 1 < ([15, 2] : List Int).length := by simp
    refine W_loopC (α := Nat × List Wrd × Int × Int) (fun a => AskW (a.2.1, 0) ∧ ((a.1 = 0 ∧ a.2.2.1 = -1 ∧ a.2.2.2 = 0 ∧ a.2.1 = rest) ∨ (a.1 = 1 ∧ a.2.2.2 = 0 ∧ tailS kind fr way rest = failS kind fr a.2.2.1 way a.2.1) ∨ (a.1 = 2 ∧ tailS kind fr way rest = endS kind fr a.2.2.1 way a.2.2.2 a.2.1))) (fun a => [(4, .ptr b4 0), (7, .ptr b7 0), (8, .ptr b8 0), (9, .isl false 1 (strsV a.2.1)), (10, .int .i64 a.2.2.2), (11, .isl true 1 (strsV [wPort, wFail])), (12, .isl true 1 (ints [15, 2])), (13, .int .i64 (a.1 : Nat))]) (fun a => upd s4 b8 [.int .i64 kind, .int .i64 fr, .int .i64 a.2.2.1, .int .i64 way]) (fun a => 2 - a.1) (0, rest, -1, 0) ⟨hwr, .inl ⟨rfl, rfl, rfl, rfl⟩⟩ (by simp (disch := omega) only [subT, Int.natCast_add, Int.cast_ofNat_Int, k4, k7, k8, go_sem] <;> (repeat' apply And.intro) <;> first | rfl | (congr 1; omega) | assumption) rfl ?_
    rintro ⟨i, r, port, k⟩ ⟨hw, hI⟩ ih
    dsimp only at hw hI
    have g8 := upd_same s4 b8 [V.int .i64 kind, V.int .i64 fr, V.int .i64 port, V.int .i64 way]
    have g7 : upd s4 b8 [V.int .i64 kind, V.int .i64 fr, V.int .i64 port, V.int .i64 way] b7 = some [V.int .i64 0, V.int .i64 0, V.int .i64 0, V.int .i64 0] := by rw [upd_ne _ _ e87.symm]; exact g7s
    have g4 : upd s4 b8 [V.int .i64 kind, V.int .i64 fr, V.int .i64 port, V.int .i64 way] b4 = some [V.int .i64 0, V.int .i64 0, V.int .i64 0, V.int .i64 0] := by rw [upd_ne _ _ e84.symm]; exact g4s
    rcases hI with ⟨rfl, rfl, rfl, rfl⟩ | ⟨rfl, rfl, hE⟩ | ⟨rfl, hE⟩
    · -- option 0
      have hE := tailS_eq kind fr way r
      simp (disch := omega) only [go_sem]
      refine W_drawW ?_
      by_cases hm : ∃ b r2, r = wPort :: b :: r2
      case' neg =>
        have ho : optS wPort 15 (-1) r = (0, (-1), r) := optS_no fun b r2 e => hm ⟨b, r2, e⟩
        rw [ho] at hE
        have hE2 := hE.trans (if_neg (by simp))
        by_cases h2 : r.length < 2
        · have d5 : decide ((r.length : Int) < 2) = true := decide_eq_true (by omega)
          simp (disch := omega) only [d5, strsV_len, go_sem]
          exact ih (1, r, -1, 0) _ _ ⟨hw, .inr (.inl ⟨rfl, rfl, hE2⟩)⟩ (by simp) (by simp (disch := omega) only [subT, Int.natCast_add, Int.cast_ofNat_Int, go_sem] <;> (repeat' apply And.intro) <;> first | rfl | (congr 1; omega) | assumption) rfl
        · have d5 : decide ((r.length : Int) < 2) = false := decide_eq_false (by omega)
          obtain ⟨wa, wb, r2, rfl⟩ : ∃ wa wb r2, r = wa :: wb :: r2 := by
            rcases r with _ | ⟨wa, _ | ⟨wb, r2⟩⟩ <;> first | exact ⟨_, _, _, rfl⟩ | (simp at h2)
          have d6 : decide (((r2.length + 1 + 1 : Nat) : Int) < 2) = false := decide_eq_false (by omega)
          have q0 : (wa :: wb :: r2).getD 0 [] = wa := rfl
          have hq0 : 0 < (wa :: wb :: r2).length := by simp
          have dw : (!(wa == wPort)) = true := by
            have : ¬ wa = wPort := fun e => hm ⟨wb, r2, by rw [e]⟩
            simp [this]
          simp (disch := omega) only [d5, d6, strsV_len, q0, dw, w0, w1, go_sem]
          exact ih (1, wa :: wb :: r2, -1, 0) _ _ ⟨hw, .inr (.inl ⟨rfl, rfl, hE2⟩)⟩ (by simp) (by simp (disch := omega) only [subT, Int.natCast_add, Int.cast_ofNat_Int, go_sem] <;> (repeat' apply And.intro) <;> first | rfl | (congr 1; omega) | assumption) rfl
      obtain ⟨wb, r2, rfl⟩ := hm
      have d5 : decide (((wPort :: wb :: r2).length : Int) < 2) = false := decide_eq_false (by simp only [List.length_cons]; omega)
      have d6 : decide (((r2.length + 1 + 1 : Nat) : Int) < 2) = false := decide_eq_false (by omega)
      have q0 : (wPort :: wb :: r2).getD 0 [] = wPort := rfl
      have q1 : (wPort :: wb :: r2).getD 1 [] = wb := rfl
      have hq0 : 0 < (wPort :: wb :: r2).length := by simp
      have hq1 : 1 < (wPort :: wb :: r2).length := by simp
      have dw : (!(wPort == wPort)) = false := by simp
      have hwb : wb.length ≤ 1000000000 := by have := hw.2 wb (by simp); omega
      have hw2 : AskW (r2, 0) := ⟨by have := hw.1; simp only [List.length_cons] at this ⊢; omega, fun w h => hw.2 w (by simp only; exact List.mem_cons_of_mem _ (List.mem_cons_of_mem _ h))⟩
      rw [optS_hit] at hE
      simp (disch := omega) only [d5, d6, strsV_len, q0, q1, dw, w0, w1, go_sem]
      refine SRun.callR (l00Number_ok hwb) ⟨[], rfl, rfl⟩ rfl ?_
      cases hN : numP wb with
      | none =>
        rw [hN] at hE
        have hE2 : tailS kind fr way (wPort :: wb :: r2) = .bad 4 := hE.trans (if_pos (by simp))
        rw [hE2]
        simp (disch := omega) only [g7, g4, Option.isSome_none, go_sem]
        refine W_retE c28_ok (hF2 _ _) ?_
        show resV [.cell 4 true 4, .t 5, .t 6] _ _ = _
        simp [resV, resV1, look, upd_same, AskR.bad, prop4]
      | some x =>
        rw [hN] at hE
        simp only [Option.getD_some, Option.isSome_some]
        simp (disch := omega) only [t0, t1, go_sem]
        refine SRun.callR (l01In_ok _ _ _) ⟨[], rfl, rfl⟩ rfl ?_
        by_cases hx : 0 ≤ x ∧ x ≤ 15
        · have dx : (decide ((0 : Int) ≤ x) && decide (x ≤ 15)) = true := by simp [hx]
          have hE2 := hE
          simp only [if_pos hx] at hE2
          have hE2 := hE2.trans (if_neg (by simp))
          have hdr : List.take (((r2.length + 1 + 1 : Nat) : Int) - 2).toNat (List.drop 2 (strsV (wPort :: wb :: r2))) = strsV r2 := by
            rw [show (((r2.length + 1 + 1 : Nat) : Int) - 2).toNat = (strsV r2).length by rw [strsV_len]; omega]
            exact List.take_length
          simp (disch := omega) only [dx, g8, upd_upd, strsV_len, go_sem]
          simp only [hdr]
          exact ih (1, r2, x, 0) _ _ ⟨hw2, .inr (.inl ⟨rfl, rfl, hE2⟩)⟩ (by simp) (by simp (disch := omega) only [subT, Int.natCast_add, Int.cast_ofNat_Int, go_sem] <;> (repeat' apply And.intro) <;> first | rfl | (congr 1; omega) | assumption) rfl
        · have dx : (decide ((0 : Int) ≤ x) && decide (x ≤ 15)) = false := by
            rcases Classical.not_and_iff_not_or_not.1 hx with h | h <;> simp [h]
          simp only [if_neg hx] at hE
          have hE2 : tailS kind fr way (wPort :: wb :: r2) = .bad 5 := hE.trans (if_pos (by simp))
          rw [hE2]
          simp (disch := omega) only [dx, g7, g4, go_sem]
          refine W_retE c28_ok (hF2 _ _) ?_
          show resV [.cell 4 true 4, .t 5, .t 6] _ _ = _
          simp [resV, resV1, look, upd_same, AskR.bad, prop4]
    · -- option 1
      unfold failS at hE
      simp (disch := omega) only [go_sem]
      refine W_drawW ?_
      by_cases hm : ∃ b r2, r = wFail :: b :: r2
      case' neg =>
        have ho : optS wFail 2 0 r = (0, 0, r) := optS_no fun b r2 e => hm ⟨b, r2, e⟩
        rw [ho] at hE
        have hE2 := hE.trans (if_neg (by simp))
        by_cases h2 : r.length < 2
        · have d5 : decide ((r.length : Int) < 2) = true := decide_eq_true (by omega)
          simp (disch := omega) only [d5, strsV_len, go_sem]
          exact ih (2, r, port, 0) _ _ ⟨hw, .inr (.inr ⟨rfl, hE2⟩)⟩ (by simp) (by simp (disch := omega) only [subT, Int.natCast_add, Int.cast_ofNat_Int, go_sem] <;> (repeat' apply And.intro) <;> first | rfl | (congr 1; omega) | assumption) rfl
        · have d5 : decide ((r.length : Int) < 2) = false := decide_eq_false (by omega)
          obtain ⟨wa, wb, r2, rfl⟩ : ∃ wa wb r2, r = wa :: wb :: r2 := by
            rcases r with _ | ⟨wa, _ | ⟨wb, r2⟩⟩ <;> first | exact ⟨_, _, _, rfl⟩ | (simp at h2)
          have d6 : decide (((r2.length + 1 + 1 : Nat) : Int) < 2) = false := decide_eq_false (by omega)
          have q0 : (wa :: wb :: r2).getD 0 [] = wa := rfl
          have hq0 : 0 < (wa :: wb :: r2).length := by simp
          have dw : (!(wa == wFail)) = true := by
            have : ¬ wa = wFail := fun e => hm ⟨wb, r2, by rw [e]⟩
            simp [this]
          simp (disch := omega) only [d5, d6, strsV_len, q0, dw, w0, w1, go_sem]
          exact ih (2, wa :: wb :: r2, port, 0) _ _ ⟨hw, .inr (.inr ⟨rfl, hE2⟩)⟩ (by simp) (by simp (disch := omega) only [subT, Int.natCast_add, Int.cast_ofNat_Int, go_sem] <;> (repeat' apply And.intro) <;> first | rfl | (congr 1; omega) | assumption) rfl
      obtain ⟨wb, r2, rfl⟩ := hm
      have d5 : decide (((wFail :: wb :: r2).length : Int) < 2) = false := decide_eq_false (by simp only [List.length_cons]; omega)
      have d6 : decide (((r2.length + 1 + 1 : Nat) : Int) < 2) = false := decide_eq_false (by omega)
      have q0 : (wFail :: wb :: r2).getD 0 [] = wFail := rfl
      have q1 : (wFail :: wb :: r2).getD 1 [] = wb := rfl
      have hq0 : 0 < (wFail :: wb :: r2).length := by simp
      have hq1 : 1 < (wFail :: wb :: r2).length := by simp
      have dw : (!(wFail == wFail)) = false := by simp
      have hwb : wb.length ≤ 1000000000 := by have := hw.2 wb (by simp); omega
      have hw2 : AskW (r2, 0) := ⟨by have := hw.1; simp only [List.length_cons] at this ⊢; omega, fun w h => hw.2 w (by simp only; exact List.mem_cons_of_mem _ (List.mem_cons_of_mem _ h))⟩
      rw [optS_hit] at hE
      simp (disch := omega) only [d5, d6, strsV_len, q0, q1, dw, w0, w1, go_sem]
      refine SRun.callR (l00Number_ok hwb) ⟨[], rfl, rfl⟩ rfl ?_
      cases hN : numP wb with
      | none =>
        rw [hN] at hE
        have hE2 : tailS kind fr way rest = .bad 4 := hE.trans (if_pos (by simp))
        rw [hE2]
        simp (disch := omega) only [g7, g4, Option.isSome_none, go_sem]
        refine W_retE c28_ok (hF2 _ _) ?_
        show resV [.cell 4 true 4, .t 5, .t 6] _ _ = _
        simp [resV, resV1, look, upd_same, AskR.bad, prop4]
      | some x =>
        rw [hN] at hE
        simp only [Option.getD_some, Option.isSome_some]
        simp (disch := omega) only [t0, t1, go_sem]
        refine SRun.callR (l01In_ok _ _ _) ⟨[], rfl, rfl⟩ rfl ?_
        by_cases hx : 0 ≤ x ∧ x ≤ 2
        · have dx : (decide ((0 : Int) ≤ x) && decide (x ≤ 2)) = true := by simp [hx]
          have hE2 := hE
          simp only [if_pos hx] at hE2
          have hE2 := hE2.trans (if_neg (by simp))
          have hdr : List.take (((r2.length + 1 + 1 : Nat) : Int) - 2).toNat (List.drop 2 (strsV (wFail :: wb :: r2))) = strsV r2 := by
            rw [show (((r2.length + 1 + 1 : Nat) : Int) - 2).toNat = (strsV r2).length by rw [strsV_len]; omega]
            exact List.take_length
          simp (disch := omega) only [dx, g8, upd_upd, strsV_len, go_sem]
          simp only [hdr]
          exact ih (2, r2, port, x) _ _ ⟨hw2, .inr (.inr ⟨rfl, hE2⟩)⟩ (by simp) (by simp (disch := omega) only [subT, Int.natCast_add, Int.cast_ofNat_Int, go_sem] <;> (repeat' apply And.intro) <;> first | rfl | (congr 1; omega) | assumption) rfl
        · have dx : (decide ((0 : Int) ≤ x) && decide (x ≤ 2)) = false := by
            rcases Classical.not_and_iff_not_or_not.1 hx with h | h <;> simp [h]
          simp only [if_neg hx] at hE
          have hE2 : tailS kind fr way rest = .bad 5 := hE.trans (if_pos (by simp))
          rw [hE2]
          simp (disch := omega) only [dx, g7, g4, go_sem]
          refine W_retE c28_ok (hF2 _ _) ?_
          show resV [.cell 4 true 4, .t 5, .t 6] _ _ = _
          simp [resV, resV1, look, upd_same, AskR.bad, prop4]
    · -- behind both
      have g8' := g8
      by_cases hn0 : r = []
      · subst hn0
        have hE2 : tailS kind fr way rest = ⟨kind, fr, port, way, k, 0⟩ := hE.trans (if_neg (by simp))
        rw [hE2]
        have dl : decide ((([] : List Wrd).length : Int) > 0) = false := rfl
        simp (disch := omega) only [dl, g8, g4, strsV_len, go_sem]
        refine W_retE c28_ok (hF2 _ _) ?_
        show resV [.cell 4 true 4, .t 5, .t 6] _ _ = _
        simp [resV, resV1, look, upd_same, prop4]
      · have hE2 : tailS kind fr way rest = .bad 4 := hE.trans (if_pos hn0)
        rw [hE2]
        have hl : 0 < r.length := List.length_pos_iff.2 hn0
        have dl : decide ((r.length : Int) > 0) = true := decide_eq_true (by omega)
        simp (disch := omega) only [dl, g7, g4, strsV_len, go_sem]
        refine W_retE c28_ok (hF2 _ _) ?_
        show resV [.cell 4 true 4, .t 5, .t 6] _ _ = _
        simp [resV, resV1, look, upd_same, AskR.bad, prop4]
end Go.Proofs.YtjibkkhgejcjeaaGreatDoor.Lg
