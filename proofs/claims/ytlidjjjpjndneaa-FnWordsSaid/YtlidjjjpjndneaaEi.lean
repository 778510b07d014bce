/- Circuits: an expression is built. -/
import Derived.Test.YtlidjjjpjndneaaEh
set_option linter.unusedSimpArgs false
set_option linter.unusedVariables false
namespace Go.Proofs.Ytlidjjjpjndneaa.Lg
open Go
attribute [local irreducible] SRun DS DRun
variable {Γ : St} {σ σ0 : St}
theorem ors_mk {A : St} {b : Nat} {inp : Int} {gs : List (Int × Int)} {x y : Int} (h : Mk A b inp gs σ) (hx : LitOK inp gs x) (hy : LitOK inp gs y) (hinp : 0 ≤ inp ∧ inp ≤ 1000) (hgs : gs.length ≤ 100000) :
    ACalls Try.prog Γ 157 [.ptr b 0, .int .i64 x, .int .i64 y] σ fun r σ' => r = .int .i64 (orP inp gs x y).1 ∧ Mk A b inp (orP inp gs x y).2 σ' := by
  have hx' := hx
  have hy' := hy
  unfold LitOK at hx' hy'
  refine acalls_W c157_ok rfl ?_
  simp (disch := omega) only [c157, go_sem, ↓if_pos, ne_eq, ↓reduceIte]
  refine SRun.callR (l04Not_ok (x := x) (by omega)) ⟨[], rfl, rfl⟩ rfl ?_
  simp (disch := omega) only [List.getD_cons_zero, List.getD_cons_succ, go_sem, ↓if_pos, ne_eq, ↓reduceIte]
  refine SRun.callR (l04Not_ok (x := y) (by omega)) ⟨[], rfl, rfl⟩ rfl ?_
  simp (disch := omega) only [List.getD_cons_zero, List.getD_cons_succ, go_sem, ↓if_pos, ne_eq, ↓reduceIte]
  refine SRun.callQ (ands_mk h (notP_ok hx) (notP_ok hy) hinp hgs) ⟨[], rfl, rfl⟩ rfl ?_
  rintro r s ⟨rfl, hm⟩
  have h3 := (andP_ok hinp.1 (notP_ok hx) (notP_ok hy))
  have h4 := h3.1
  unfold LitOK at h4
  simp (disch := omega) only [go_sem, ↓if_pos, ne_eq, ↓reduceIte]
  refine SRun.callR (l04Not_ok (x := (andP inp gs (notP x) (notP y)).1) (by omega)) ⟨[], rfl, rfl⟩ rfl ?_
  simp (disch := omega) only [List.getD_cons_zero, List.getD_cons_succ, go_sem, ↓if_pos, ne_eq, ↓reduceIte]
  exact W_retR c157_ok rfl ⟨rfl, hm⟩
/-- A node is built of its parts' literals. -/
def opP (inp k : Int) (l : List Int) (gs : List (Int × Int)) : Int × List (Int × Int) :=
  if k = 3 then (notP (l.getD 0 0), gs) else if k = 4 then andP inp gs (l.getD 0 0) (l.getD 1 0) else if k = 5 then orP inp gs (l.getD 0 0) (l.getD 1 0)
  else if k = 6 then
    let u := andP inp gs (l.getD 0 0) (notP (l.getD 1 0))
    let v := andP inp u.2 (notP (l.getD 0 0)) (l.getD 1 0)
    orP inp v.2 u.1 v.1
  else
    let u := andP inp gs (l.getD 0 0) (l.getD 1 0)
    let v := andP inp u.2 (notP (l.getD 0 0)) (l.getD 2 0)
    orP inp v.2 u.1 v.1
mutual
def makeP (inp : Int) : Ex → List (Int × Int) → Int × List (Int × Int)
  | .mk k n ks, gs => if k = 1 then (2 * n + 2, gs) else if k = 2 then (n, gs) else opP inp k (makeL inp ks gs).1 (makeL inp ks gs).2
def makeL (inp : Int) : List Ex → List (Int × Int) → List Int × List (Int × Int)
  | [], gs => ([], gs)
  | e :: r, gs => ((makeP inp e gs).1 :: (makeL inp r (makeP inp e gs).2).1, (makeL inp r (makeP inp e gs).2).2)
end
theorem opP_ok {inp k : Int} {l : List Int} {gs : List (Int × Int)} (hi : 0 ≤ inp) (hl : ∀ x ∈ l, LitOK inp gs x) (hk : 3 ≤ k) (hn : arity k ≤ l.length) (hk7 : k ≤ 7) : LitOK inp (opP inp k l gs).2 (opP inp k l gs).1 ∧ gs <+: (opP inp k l gs).2 ∧ (opP inp k l gs).2.length ≤ gs.length + 3 := by
  have hg : ∀ i : Nat, (i : Int) < arity k → LitOK inp gs (l.getD i 0) := fun i h => hl _ (getD_mem 0 (by omega))
  have hkk : k = 3 ∨ k = 4 ∨ k = 5 ∨ k = 6 ∨ k = 7 := by omega
  rcases hkk with rfl | rfl | rfl | rfl | rfl
  · have h0 := hg 0 (by decide)
    exact ⟨notP_ok h0, List.prefix_refl _, by simp [opP]⟩
  · have h0 := hg 0 (by decide)
    have h1 := hg 1 (by decide)
    obtain ⟨a, b, c⟩ := andP_ok hi h0 h1
    exact ⟨a, b, Nat.le_trans c (by omega)⟩
  · have h0 := hg 0 (by decide)
    have h1 := hg 1 (by decide)
    obtain ⟨a, b, c⟩ := orP_ok hi h0 h1
    exact ⟨a, b, Nat.le_trans c (by omega)⟩
  · have h0 := hg 0 (by decide)
    have h1 := hg 1 (by decide)
    obtain ⟨a, b, c⟩ := andP_ok hi h0 (notP_ok h1)
    obtain ⟨a', b', c'⟩ := andP_ok hi ((notP_ok h0).mono b) (h1.mono b)
    obtain ⟨a2, b2, c2⟩ := orP_ok hi (a.mono b') a'
    exact ⟨a2, b.trans (b'.trans b2), by
      have e : (opP inp 6 l gs).2 = (orP inp (andP inp (andP inp gs (l.getD 0 0) (notP (l.getD 1 0))).2 (notP (l.getD 0 0)) (l.getD 1 0)).2 (andP inp gs (l.getD 0 0) (notP (l.getD 1 0))).1 (andP inp (andP inp gs (l.getD 0 0) (notP (l.getD 1 0))).2 (notP (l.getD 0 0)) (l.getD 1 0)).1).2 := rfl
      rw [e]; omega⟩
  · have h0 := hg 0 (by decide)
    have h1 := hg 1 (by decide)
    have h2 := hg 2 (by decide)
    obtain ⟨a, b, c⟩ := andP_ok hi h0 h1
    obtain ⟨a', b', c'⟩ := andP_ok hi ((notP_ok h0).mono b) (h2.mono b)
    obtain ⟨a2, b2, c2⟩ := orP_ok hi (a.mono b') a'
    exact ⟨a2, b.trans (b'.trans b2), by
      have e : (opP inp 7 l gs).2 = (orP inp (andP inp (andP inp gs (l.getD 0 0) (l.getD 1 0)).2 (notP (l.getD 0 0)) (l.getD 2 0)).2 (andP inp gs (l.getD 0 0) (l.getD 1 0)).1 (andP inp (andP inp gs (l.getD 0 0) (l.getD 1 0)).2 (notP (l.getD 0 0)) (l.getD 2 0)).1).2 := rfl
      rw [e]; omega⟩
mutual
/-- How many nodes are no leaves. -/
def innerE : Ex → Nat
  | .mk k _ ks => (if k = 1 ∨ k = 2 then 0 else 1) + innerL ks
def innerL : List Ex → Nat
  | [] => 0
  | e :: r => innerE e + innerL r
end
def MakeGood (inp : Int) (e : Ex) : Prop := ∀ gs, mostE e < inp → LitOK inp (makeP inp e gs).2 (makeP inp e gs).1 ∧ gs <+: (makeP inp e gs).2 ∧ (makeP inp e gs).2.length ≤ gs.length + 3 * innerE e
theorem makeL_ok {inp : Int} {ks : List Ex} (h : ∀ e ∈ ks, MakeGood inp e) (hm : mostL ks < inp) : ∀ gs, (∀ x ∈ (makeL inp ks gs).1, LitOK inp (makeL inp ks gs).2 x) ∧ gs <+: (makeL inp ks gs).2 ∧ (makeL inp ks gs).2.length ≤ gs.length + 3 * innerL ks ∧ (makeL inp ks gs).1.length = ks.length := by
  induction ks with
  | nil => intro gs; simp [makeL, innerL]
  | cons e r ih =>
    intro gs
    simp only [mostL] at hm
    obtain ⟨a, b, c⟩ := h e (by simp) gs (by omega)
    obtain ⟨a', b', c', d'⟩ := ih (fun x hx => h x (by simp [hx])) (by omega) (makeP inp e gs).2
    simp only [makeL, innerL, List.length_cons]
    refine ⟨fun x hx => ?_, b.trans b', by omega, by omega⟩
    rcases List.mem_cons.1 hx with rfl | hx
    · exact a.mono b'
    · exact a' x hx
theorem kinds {k n : Int} {ks : List Ex} (hr : rightE (.mk k n ks) = true) : (k = 1 ∧ ks = [] ∧ 0 ≤ n ∧ n ≤ 11) ∨ (k = 2 ∧ ks = [] ∧ (n = 0 ∨ n = 1)) ∨ (3 ≤ k ∧ k ≤ 7 ∧ n = 0 ∧ (ks.length : Int) = arity k) := by
  revert hr
  have := right_cases (p := fun e => ∀ k n ks, e = .mk k n ks → (k = 1 ∧ ks = [] ∧ 0 ≤ n ∧ n ≤ 11) ∨ (k = 2 ∧ ks = [] ∧ (n = 0 ∨ n = 1)) ∨ (3 ≤ k ∧ k ≤ 7 ∧ n = 0 ∧ (ks.length : Int) = arity k))
    (fun n h0 h1 k n' ks e => by cases e; exact .inl ⟨rfl, rfl, h0, h1⟩) (fun n h k n' ks e => by cases e; exact .inr (.inl ⟨rfl, rfl, h⟩))
    (fun a _ _ k n' ks e => by cases e; exact .inr (.inr ⟨by omega, by omega, rfl, rfl⟩)) (fun a b _ _ _ _ k n' ks e => by cases e; exact .inr (.inr ⟨by omega, by omega, rfl, rfl⟩))
    (fun a b _ _ _ _ k n' ks e => by cases e; exact .inr (.inr ⟨by omega, by omega, rfl, rfl⟩)) (fun a b _ _ _ _ k n' ks e => by cases e; exact .inr (.inr ⟨by omega, by omega, rfl, rfl⟩))
    (fun a b c _ _ _ _ _ _ k n' ks e => by cases e; exact .inr (.inr ⟨by omega, by omega, rfl, rfl⟩))
  exact fun hr => this _ hr k n ks rfl
theorem right_kids {k n : Int} {ks : List Ex} (hr : rightE (.mk k n ks) = true) : ∀ e ∈ ks, rightE e = true := by
  simp only [rightE, Bool.and_eq_true, decide_eq_true_eq, rightL_all, List.all_eq_true] at hr
  exact hr.2
theorem makeP_ok {inp : Int} (hi : 0 ≤ inp) : ∀ e, rightE e = true → MakeGood inp e := by
  refine Ex.ind fun k n ks ih hr gs hm => ?_
  have hk := right_kids hr
  simp only [mostE] at hm
  rcases kinds hr with ⟨rfl, rfl, h0, h1⟩ | ⟨rfl, rfl, h⟩ | ⟨h3, h7, rfl, hl⟩
  · simp only [makeP, innerE, ↓reduceIte] at hm ⊢
    exact ⟨⟨by omega, by omega⟩, List.prefix_refl _, by simp [innerL]⟩
  · simp only [makeP, ↓reduceIte, Int.reduceEq]
    exact ⟨⟨by omega, by omega⟩, List.prefix_refl _, by omega⟩
  · have hL := makeL_ok (fun e he => ih e he (hk e he)) (by omega) gs
    have hO := opP_ok (k := k) hi hL.1 h3 (by rw [hL.2.2.2, hl]; exact Int.le_refl _) h7
    simp only [makeP, innerE]
    rw [if_neg (by omega), if_neg (by omega), if_neg (by omega)]
    exact ⟨hO.1, hL.2.1.trans hO.2.1, by omega⟩
end Go.Proofs.Ytlidjjjpjndneaa.Lg
