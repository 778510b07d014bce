/- A question's reader, method by method. -/
import Derived.Test.YtjibkkhgejcjeaaGreatDoorKj5
import Derived.Test.YtjibkkhgejcjeaaGreatDoorYa
import Derived.Test.YtjibkkhgejcjeaaGreatDoorBc
set_option linter.unusedSimpArgs false
set_option linter.unusedVariables false
namespace Go.Proofs.YtjibkkhgejcjeaaGreatDoor.Lg
open Go Go.Lib
attribute [local irreducible] SRun DS DRun
variable {Γ : St} {σ σ0 : St}
theorem place_idx (ss : List (List UInt8)) (w : List UInt8) : placeP ss w = idxP ss w := rfl
/-- The program's reader of questions. -/
def askC (n : Net) (s : AskT) : List V := [.isl false 1 (strsV n.routers), .isl false 3 (linksV n.links), .isl false 1 (ints n.origins), .isl false 1 (ints n.externals), .isl false 5 (impsV n.imports), .isl false 4 (filsV n.filters), .isl false 1 (strsV s.1), .int .i64 s.2]
theorem must_ok {n : Net} {s : AskT} {rb : Nat} {b : Bool} (hb : σ rb = some (askC n s)) : Ret Tryz.prog Γ 75 [.ptr rb 0, .bool b] σ (.tup []) (upd σ rb (askC n (mustP b s))) := by
  obtain ⟨ws, c⟩ := s
  unfold askC at *
  by_cases h : c = 0
  · subst h
    have d0 : decide ((0 : Int) = 0) = true := rfl
    cases b with
    | true =>
      have e : mustP true (ws, 0) = (ws, 0) := by simp [mustP]
      rw [e]
      refine ret_of c75_ok rfl ?_
      simp (disch := omega) only [c75, hb, d0, go_sem]
      exact W_fallR c75_ok rfl ⟨rfl, (upd_self _ hb).symm⟩
    | false =>
      have e : mustP false (ws, 0) = (ws, 4) := by simp [mustP]
      rw [e]
      refine ret_of c75_ok rfl ?_
      simp (disch := omega) only [c75, hb, d0, go_sem]
      exact W_fallR c75_ok rfl ⟨rfl, rfl⟩
  · have d0 : decide (c = 0) = false := decide_eq_false h
    have e : mustP b (ws, c) = (ws, c) := by simp [mustP, h]
    rw [e]
    refine ret_of c75_ok rfl ?_
    simp (disch := omega) only [c75, hb, d0, go_sem]
    exact W_fallR c75_ok rfl ⟨rfl, (upd_self _ hb).symm⟩
theorem takes_ok {n : Net} {s : AskT} {rb : Nat} {x : List UInt8} (hl : s.1.length ≤ 1000000) (hb : σ rb = some (askC n s)) : Ret Tryz.prog Γ 76 [.ptr rb 0, .str x] σ (.bool (takesP x s).1) (upd σ rb (askC n (takesP x s).2)) := by
  obtain ⟨ws, c⟩ := s
  dsimp only at hl
  unfold askC at *
  have hsl := strsV_len ws
  by_cases h : c = 0
  · subst h
    have d0 : (decide ¬ ((0 : Int) = 0)) = false := rfl
    cases ws with
    | nil =>
      have e : takesP x (([], 0) : AskT) = (false, ([], 0)) := by simp [takesP]
      have dl : decide (((strsV []).length : Int) = 0) = true := rfl
      rw [e]
      refine ret_of c76_ok rfl ?_
      simp (disch := omega) only [c76, hb, d0, dl, go_sem]
      exact W_retR c76_ok rfl ⟨rfl, (upd_self _ hb).symm⟩
    | cons w r =>
      have dl : decide (((strsV (w :: r)).length : Int) = 0) = false := decide_eq_false (by rw [hsl]; simp; omega)
      have hg : (w :: r).getD 0 [] = w := rfl
      have hpos : 0 < (w :: r).length := by simp
      have hdr : ((strsV (w :: r)).drop 1).take (((r.length + 1 : Nat) : Int) - 1).toNat = strsV r := by
        rw [List.take_of_length_le (by rw [List.length_drop, strsV_len]; simp)]; rfl
      have hge : 1 ≤ ((strsV (w :: r)).length : Int) := by rw [hsl]; simp only [List.length_cons]; omega
      by_cases hx : w = x
      · have e : takesP x ((w :: r, 0) : AskT) = (true, (r, 0)) := by simp [takesP, hx]
        have dx : (!(w == x)) = false := by simp [hx]
        rw [e]
        refine ret_of c76_ok rfl ?_
        simp (disch := omega) only [c76, hb, d0, dl, hg, dx, hge, go_sem]
        exact W_retR c76_ok rfl ⟨rfl, by rw [hdr]⟩
      · have e : takesP x ((w :: r, 0) : AskT) = (false, (w :: r, 0)) := by simp [takesP, hx]
        have dx : (!(w == x)) = true := by simp [hx]
        rw [e]
        refine ret_of c76_ok rfl ?_
        simp (disch := omega) only [c76, hb, d0, dl, hg, dx, go_sem]
        exact W_retR c76_ok rfl ⟨rfl, (upd_self _ hb).symm⟩
  · have d0 : (decide ¬ (c = 0)) = true := decide_eq_true h
    have e : takesP x (ws, c) = (false, (ws, c)) := by simp [takesP, h]
    rw [e]
    refine ret_of c76_ok rfl ?_
    simp (disch := omega) only [c76, hb, d0, go_sem]
    exact W_retR c76_ok rfl ⟨rfl, (upd_self _ hb).symm⟩
theorem next_okA {n : Net} {s : AskT} {rb : Nat} (hl : s.1.length ≤ 1000000) (hb : σ rb = some (askC n s)) : Ret Tryz.prog Γ 78 [.ptr rb 0] σ (.str (nextP s).1) (upd σ rb (askC n (nextP s).2)) := by
  obtain ⟨ws, c⟩ := s
  dsimp only at hl
  unfold askC at *
  have hsl := strsV_len ws
  by_cases h : c = 0
  · subst h
    have d0 : decide ((0 : Int) = 0) = true := rfl
    have d1 : (decide ¬ ((0 : Int) = 0)) = false := rfl
    have d4 : (decide ¬ ((4 : Int) = 0)) = true := rfl
    cases ws with
    | nil =>
      have e : nextP (([], 0) : AskT) = ([], ([], 4)) := by simp [nextP]
      have dl : decide (((strsV []).length : Int) = 0) = true := rfl
      rw [e]
      refine ret_of c78_ok rfl ?_
      simp (disch := omega) only [c78, hb, d0, dl, upd_same, d4, go_sem]
      exact W_retR c78_ok rfl ⟨rfl, rfl⟩
    | cons w r =>
      have dl : decide (((strsV (w :: r)).length : Int) = 0) = false := decide_eq_false (by rw [hsl]; simp; omega)
      have hg : (w :: r).getD 0 [] = w := rfl
      have hpos : 0 < (w :: r).length := by simp
      have hdr : ((strsV (w :: r)).drop 1).take (((r.length + 1 : Nat) : Int) - 1).toNat = strsV r := by
        rw [List.take_of_length_le (by rw [List.length_drop, strsV_len]; simp)]; rfl
      have hge : 1 ≤ ((strsV (w :: r)).length : Int) := by rw [hsl]; simp only [List.length_cons]; omega
      have e : nextP ((w :: r, 0) : AskT) = (w, (r, 0)) := by simp [nextP]
      rw [e]
      refine ret_of c78_ok rfl ?_
      simp (disch := omega) only [c78, hb, d0, d1, dl, hg, hge, go_sem]
      exact W_retR c78_ok rfl ⟨rfl, by rw [hdr]⟩
  · have d0 : decide (c = 0) = false := decide_eq_false h
    have d1 : (decide ¬ (c = 0)) = true := decide_eq_true h
    have e : nextP (ws, c) = ([], (ws, c)) := by simp [nextP, h]
    rw [e]
    refine ret_of c78_ok rfl ?_
    simp (disch := omega) only [c78, hb, d0, d1, go_sem]
    exact W_retR c78_ok rfl ⟨rfl, (upd_self _ hb).symm⟩
theorem bounded_ok (hg : NumG Γ) {t : List UInt8} {lo hi : Int} (hl : t.length ≤ 1000000) : Ret Tryz.prog Γ 116 [.str t, .int .i64 lo, .int .i64 hi] σ (.tup [.int .i64 (boundP t lo hi).1, .int .i64 (boundP t lo hi).2]) σ := by
  unfold boundP
  refine ret_of c116_ok rfl ?_
  simp (disch := omega) only [c116, go_sem]
  refine SRun.callQ (number_ok hg (by omega)) ⟨[], rfl, rfl⟩ rfl ?_
  rintro _ s ⟨hs, n, rfl, hn1⟩
  obtain rfl := hs.symm
  cases hP : numP t with
  | none =>
    have hs : (none : Option Int).isSome = false := rfl
    simp (disch := omega) only [hs, go_sem]
    exact W_retR c116_ok rfl ⟨rfl, rfl⟩
  | some v =>
    obtain rfl := hn1 v hP
    have hs : (some n : Option Int).isSome = true := rfl
    simp (disch := omega) only [hs, go_sem]
    refine SRun.callR (within_ok n lo hi) ⟨[], rfl, rfl⟩ rfl ?_
    by_cases h : lo ≤ n ∧ n ≤ hi
    · have dl : (!(decide (lo ≤ n) && decide (n ≤ hi))) = false := by simp [h.1, h.2]
      simp only [if_pos h]
      simp (disch := omega) only [dl, go_sem]
      exact W_retR c116_ok rfl ⟨rfl, rfl⟩
    · have dl : (!(decide (lo ≤ n) && decide (n ≤ hi))) = true := by
        rcases Classical.not_and_iff_not_or_not.1 h with h | h
        · rw [decide_eq_false h]; rfl
        · rw [decide_eq_false h, Bool.and_false]; rfl
      simp only [if_neg h]
      simp (disch := omega) only [dl, go_sem]
      exact W_retR c116_ok rfl ⟨rfl, rfl⟩
theorem nextP_len (s : AskT) : (nextP s).2.1.length ≤ s.1.length ∧ ∀ L, (∀ w ∈ s.1, w.length ≤ L) → (nextP s).1.length ≤ L ∧ ∀ w ∈ (nextP s).2.1, w.length ≤ L := by
  unfold nextP
  split
  · exact ⟨Nat.le_refl _, fun L h => ⟨by simp, h⟩⟩
  · split
    · exact ⟨by simp, fun L h => ⟨by simp, fun w hw => by cases hw⟩⟩
    · rename_i w r e
      rw [e]
      exact ⟨by simp, fun L h => ⟨h w (by simp), fun x hx => h x (by simp [hx])⟩⟩
theorem router_ok {n : Net} {s : AskT} {rb : Nat} (hr : n.routers.length ≤ 1000000000) (hl : s.1.length ≤ 1000000) (hb : σ rb = some (askC n s)) : Ret Tryz.prog Γ 79 [.ptr rb 0] σ (.int .i64 (routerP n.routers s).1) (upd σ rb (askC n (routerP n.routers s).2)) := by
  have hm : ∀ b : Int, (if b > 0 then b else 0) = max 0 b := fun b => by split <;> omega
  unfold routerP
  refine ret_of c79_ok rfl ?_
  simp (disch := omega) only [c79, go_sem]
  refine SRun.callR (next_okA hl hb) ⟨[], rfl, rfl⟩ rfl ?_
  have gz := upd_same σ rb (askC n (nextP s).2)
  generalize hT : nextP s = T
  obtain ⟨w, ws, c⟩ := T
  rw [hT] at gz
  unfold askC at *
  simp (disch := omega) only [gz, go_sem]
  refine SRun.callR (indexStr_ok (by omega)) ⟨[], rfl, rfl⟩ rfl ?_
  rw [place_idx]
  obtain ⟨i0, i1⟩ := idxP_lt n.routers w
  generalize idxP n.routers w = i at *
  by_cases h : c = 0
  · subst h
    have d0 : decide ((0 : Int) = 0) = true := rfl
    by_cases hi : i < 0
    · have d1 : decide (i < 0) = true := decide_eq_true hi
      simp (disch := omega) only [gz, d0, d1, upd_upd, hm, go_sem]
      exact W_retR c79_ok rfl ⟨rfl, by simp [hi]⟩
    · have d1 : decide (i < 0) = false := decide_eq_false hi
      simp (disch := omega) only [gz, d0, d1, hm, go_sem]
      exact W_retR c79_ok rfl ⟨rfl, by simp [hi]⟩
  · have d0 : decide (c = 0) = false := decide_eq_false h
    simp (disch := omega) only [gz, d0, hm, go_sem]
    exact W_retR c79_ok rfl ⟨rfl, by simp [h]⟩
theorem number_okA (hg : NumG Γ) {n : Net} {s : AskT} {rb : Nat} {hi : Int} (hl : s.1.length ≤ 1000000) (hw : ∀ w ∈ s.1, w.length ≤ 1000000) (hb : σ rb = some (askC n s)) : Ret Tryz.prog Γ 80 [.ptr rb 0, .int .i64 hi] σ (.int .i64 (numberP hi s).1) (upd σ rb (askC n (numberP hi s).2)) := by
  have hwl := ((nextP_len s).2 _ hw).1
  unfold numberP
  refine ret_of c80_ok rfl ?_
  simp (disch := omega) only [c80, go_sem]
  refine SRun.callR (next_okA hl hb) ⟨[], rfl, rfl⟩ rfl ?_
  have gz := upd_same σ rb (askC n (nextP s).2)
  generalize hT : nextP s = T at *
  obtain ⟨w, ws, c⟩ := T
  dsimp only at hwl gz ⊢
  unfold askC at *
  by_cases h : c = 0
  · subst h
    have d0 : (decide ¬ ((0 : Int) = 0)) = false := rfl
    simp (disch := omega) only [gz, d0, go_sem]
    refine SRun.callR (bounded_ok hg hwl) ⟨[], rfl, rfl⟩ rfl ?_
    simp (disch := omega) only [gz, upd_upd, go_sem]
    exact W_retR c80_ok rfl ⟨by simp [look], by simp⟩
  · have d0 : (decide ¬ (c = 0)) = true := decide_eq_true h
    simp (disch := omega) only [gz, d0, go_sem]
    exact W_retR c80_ok rfl ⟨by simp [look, h], by simp [h]⟩
end Go.Proofs.YtjibkkhgejcjeaaGreatDoor.Lg
