/- The program's functions, one by one: what is known of variables, and what follows. -/
import Derived.Test.YtlojopaebdnacaaMa
set_option linter.unusedSimpArgs false
set_option linter.unusedVariables false
namespace Go.Proofs.Ytlojopaebdnacaa.Lg
open Go
attribute [local irreducible] SRun DS DRun
variable {Γ : St} {σ σ0 : St}
/-- A copy in new memory, of slices of one cell. -/
theorem cloneI_ok {x : V} {cells : List V} (hx : (∃ ex es xs, x = .isl ex es xs) ∨ ∃ b es off len cap, x = .msl b es off len cap) (hsrc : srcV σ 1 x = some (cells, cells.length)) (hl : cells.length ≤ 1000000000) :
    ACalls Try.prog Γ 107 [x] σ fun r σ' => OwnS σ 1 cells cells.length r σ' := by
  refine acalls_W c107_ok rfl ?_
  simp only [c107, go_sem, stepW_iaddr_isl, stepW_iaddr_msl, stepW_idxs, stepK_iaddr_isl, stepK_iaddr_msl, stepK_idxs, ne_eq, ↓reduceIte]
  refine SRun.eqsR hx ?_
  intro q hq
  simp only [go_sem, stepW_iaddr_isl, stepW_iaddr_msl, stepW_idxs, stepK_iaddr_isl, stepK_iaddr_msl, stepK_idxs, ne_eq, ↓reduceIte]
  refine iteW_of (fun h => ?_) (fun h => ?_)
  · subst h
    simp only [go_sem, stepW_iaddr_isl, stepW_iaddr_msl, stepW_idxs, stepK_iaddr_isl, stepK_iaddr_msl, stepK_idxs, ne_eq, ↓reduceIte]
    have hc : cells = [] := by
      rcases hx with ⟨ex, es, xs, rfl⟩ | ⟨b, es, off, len, cap, rfl⟩
      · have hxs : xs = [] := by
          by_cases he : xs = []
          · exact he
          · have := hq he; cases this
        subst hxs
        simp [srcV, flat] at hsrc
        exact hsrc.1
      · have : true = false := hq
        cases this
    subst hc
    exact W_retR c107_ok rfl (OwnS.nil _ _)
  · simp only [go_sem, stepW_iaddr_isl, stepW_iaddr_msl, stepW_idxs, stepK_iaddr_isl, stepK_iaddr_msl, stepK_idxs, ne_eq, ↓reduceIte]
    refine SRun.appO (OwnS.nil 1 1) hsrc (by simp) (by omega) ?_
    intro r σ' ho
    simp only [go_sem, stepW_iaddr_isl, stepW_iaddr_msl, stepW_idxs, stepK_iaddr_isl, stepK_iaddr_msl, stepK_idxs, ne_eq, ↓reduceIte]
    refine W_retR c107_ok rfl ?_
    have ho2 : OwnS σ 1 cells cells.length r σ' := by simpa using ho
    exact ho2
theorem cloneL_ok {x : V} {cells : List V} (hx : (∃ ex es xs, x = .isl ex es xs) ∨ ∃ b es off len cap, x = .msl b es off len cap) (hsrc : srcV σ 1 x = some (cells, cells.length)) (hl : cells.length ≤ 1000000000) :
    ACalls Try.prog Γ 48 [x] σ fun r σ' => OwnS σ 1 cells cells.length r σ' := by
  refine acalls_W c48_ok rfl ?_
  simp only [c48, go_sem, stepW_iaddr_isl, stepW_iaddr_msl, stepW_idxs, stepK_iaddr_isl, stepK_iaddr_msl, stepK_idxs, ne_eq, ↓reduceIte]
  refine SRun.eqsR hx ?_
  intro q hq
  simp only [go_sem, stepW_iaddr_isl, stepW_iaddr_msl, stepW_idxs, stepK_iaddr_isl, stepK_iaddr_msl, stepK_idxs, ne_eq, ↓reduceIte]
  refine iteW_of (fun h => ?_) (fun h => ?_)
  · subst h
    simp only [go_sem, stepW_iaddr_isl, stepW_iaddr_msl, stepW_idxs, stepK_iaddr_isl, stepK_iaddr_msl, stepK_idxs, ne_eq, ↓reduceIte]
    have hc : cells = [] := by
      rcases hx with ⟨ex, es, xs, rfl⟩ | ⟨b, es, off, len, cap, rfl⟩
      · have hxs : xs = [] := by
          by_cases he : xs = []
          · exact he
          · have := hq he; cases this
        subst hxs
        simp [srcV, flat] at hsrc
        exact hsrc.1
      · have : true = false := hq
        cases this
    subst hc
    exact W_retR c48_ok rfl (OwnS.nil _ _)
  · simp only [go_sem, stepW_iaddr_isl, stepW_iaddr_msl, stepW_idxs, stepK_iaddr_isl, stepK_iaddr_msl, stepK_idxs, ne_eq, ↓reduceIte]
    refine SRun.appO (OwnS.nil 1 1) hsrc (by simp) (by omega) ?_
    intro r σ' ho
    simp only [go_sem, stepW_iaddr_isl, stepW_iaddr_msl, stepW_idxs, stepK_iaddr_isl, stepK_iaddr_msl, stepK_idxs, ne_eq, ↓reduceIte]
    refine W_retR c48_ok rfl ?_
    have ho2 : OwnS σ 1 cells cells.length r σ' := by simpa using ho
    exact ho2

/-- The first place of a number, or -1. -/
def findZ (xs : List Int) (y : Int) : Int := match xs.findIdx? (· == y) with | some i => (i : Int) | none => -1
theorem findZ_in (xs : List Int) (y : Int) : -1 ≤ findZ xs y ∧ findZ xs y < xs.length := by
  unfold findZ
  cases hf : xs.findIdx? (· == y) with
  | none => simp only; omega
  | some i =>
    have := (List.findIdx?_eq_some_iff_getElem.1 hf).1
    simp only; omega
/-- The first place of a number. -/
theorem indexI_ok {xs : List Int} {b off cap : Nat} {cs : List V} {y : Int} (hb : σ b = some cs) (hcs : (cs.drop off).take xs.length = ints xs) (hl : xs.length ≤ 1000000000) :
    Ret Try.prog Γ 106 [.msl b 1 off xs.length cap, .int .i64 y] σ (.int .i64 (findZ xs y)) σ := by
  refine ret_of c106_ok rfl ?_
  simp only [c106, go_sem, stepW_iaddr_isl, stepW_iaddr_msl, stepW_idxs, stepK_iaddr_isl, stepK_iaddr_msl, stepK_idxs, ne_eq, ↓reduceIte]
  refine W_loopR (fun m T σ' => ∃ i : Nat, i + m = xs.length ∧ look T 0 = .msl b 1 off xs.length cap ∧ look T 1 = .int .i64 y ∧ look T 7 = .int .i64 xs.length ∧ look T 8 = .int .i64 i ∧ σ' = σ ∧ (∀ j z, j < i → xs[j]? = some z → (z == y) = false)) xs.length ?_ ?_
  · exact ⟨0, by omega, rfl, rfl, rfl, rfl, rfl, fun j x hj => by omega⟩
  · rintro m T σ' ih ⟨i, hm, h0, h1', h7, h8, rfl, hno⟩
    simp only [h0, h1', h7, h8, go_sem, stepW_iaddr_isl, stepW_iaddr_msl, stepW_idxs, stepK_iaddr_isl, stepK_iaddr_msl, stepK_idxs, ne_eq, ↓reduceIte]
    refine iteW_of (fun h => ?_) (fun h => ?_)
    · have h' := of_decide_eq_true h
      have hlt : i < xs.length := by omega
      have hget : cs[off + i]? = some (.int .i64 xs[i]) := by
        have h2 : (ints xs)[i]? = some (.int .i64 xs[i]) := ints_get (by simp [hlt])
        rw [← hcs, List.getElem?_take, if_pos hlt, List.getElem?_drop] at h2
        exact h2
      have w1 := wrap64 (a := (i : Int) + 1) (by omega) (by omega)
      have h00 : (0 : Int) ≤ (i : Int) := by omega
      have h01 : (i : Int) < (xs.length : Int) := by omega
      simp only [h0, h1', h7, h8, hb, hget, h00, h01, Int.toNat_natCast, go_sem, stepW_iaddr_isl, stepW_iaddr_msl, stepW_idxs, stepK_iaddr_isl, stepK_iaddr_msl, stepK_idxs, ne_eq, ↓reduceIte]
      refine iteW_of (fun hq => ?_) (fun hq => ?_)
      · simp only [go_sem, stepW_iaddr_isl, stepW_iaddr_msl, stepW_idxs, stepK_iaddr_isl, stepK_iaddr_msl, stepK_idxs, ne_eq, ↓reduceIte]
        refine W_retR c106_ok rfl ⟨?_, rfl⟩
        have hq2 : (xs[i] == y) = true := by rw [beq_iff_eq] at hq ⊢; exact hq.symm
        have : xs.findIdx? (· == y) = some i := by
          rw [List.findIdx?_eq_some_iff_getElem]
          exact ⟨hlt, hq2, fun j hj => by simpa using hno j xs[j] hj (by simp)⟩
        simp only [findZ, this]; rfl
      · simp only [h8, w1, go_sem, stepW_iaddr_isl, stepW_iaddr_msl, stepW_idxs, stepK_iaddr_isl, stepK_iaddr_msl, stepK_idxs, ne_eq, ↓reduceIte]
        refine ih (m - 1) _ _ (by omega) ⟨i + 1, by omega, ?_, ?_, ?_, rfl, rfl, fun j x hj hx => ?_⟩
        · simp only [go_sem, stepW_iaddr_isl, stepW_iaddr_msl, stepW_idxs, stepK_iaddr_isl, stepK_iaddr_msl, stepK_idxs, ne_eq, ↓reduceIte]; exact h0
        · simp only [go_sem, stepW_iaddr_isl, stepW_iaddr_msl, stepW_idxs, stepK_iaddr_isl, stepK_iaddr_msl, stepK_idxs, ne_eq, ↓reduceIte]; exact h1'
        · simp only [go_sem, stepW_iaddr_isl, stepW_iaddr_msl, stepW_idxs, stepK_iaddr_isl, stepK_iaddr_msl, stepK_idxs, ne_eq, ↓reduceIte]; exact h7
        · by_cases hji : j = i
          · subst hji
            have : xs[j]? = some xs[j] := by simp [hlt]
            rw [this] at hx; obtain rfl := Option.some.inj hx
            rw [beq_eq_false_iff_ne] at hq ⊢; exact fun e => hq e.symm
          · exact hno j x (by omega) hx
    · have h' := of_decide_eq_false h
      simp only [go_sem, stepW_iaddr_isl, stepW_iaddr_msl, stepW_idxs, stepK_iaddr_isl, stepK_iaddr_msl, stepK_idxs, ne_eq, ↓reduceIte]
      refine W_retR c106_ok rfl ⟨?_, rfl⟩
      have : xs.findIdx? (· == y) = none := by
        rw [List.findIdx?_eq_none_iff]
        intro x hx
        obtain ⟨j, hj, rfl⟩ := List.getElem_of_mem hx
        exact hno j _ (by omega) (by simp)
      simp only [findZ, this]; rfl

/-- A state: the formula, and what is known. -/
def stC (vars : Int) (cls : List (List Int)) (bv n cap : Nat) : List V := [.int .i64 vars, .isl false 1 (clsV cls), .msl bv 1 0 n cap]
structure StAt (σ : St) (vars : Int) (cls : List (List Int)) (vals : List Int) (b bv : Nat) : Prop where
  st' : ∃ cap, vals.length ≤ cap ∧ σ b = some (stC vars cls bv vals.length cap)
  vl : σ bv = some (ints vals)
  len : (vals.length : Int) = vars + 1
  ne : bv ≠ b
def isT (vals : List Int) (x : Int) : Bool := if x < 0 then vals.getD (-x).toNat 0 == -1 else vals.getD x.toNat 0 == 1
def setT (vals : List Int) (x : Int) : List Int := if x < 0 then vals.set (-x).toNat (-1) else vals.set x.toNat 1
theorem setT_length (vals : List Int) (x : Int) : (setT vals x).length = vals.length := by unfold setT; split <;> simp
def litOK (vars x : Int) : Prop := x ≠ 0 ∧ -vars ≤ x ∧ x ≤ vars
theorem is_ok {vars x : Int} {cls : List (List Int)} {vals : List Int} {b bv : Nat} (h : StAt σ vars cls vals b bv) (hx : -vars ≤ x ∧ x ≤ vars) (hv : vars ≤ 1000000) :
    Ret Try.prog Γ 55 [.ptr b 0, .int .i64 x] σ (.bool (isT vals x)) σ := by
  refine ret_of c55_ok rfl ?_
  have hlen := h.len
  obtain ⟨cap, hcap, hst⟩ := h.st'
  simp only [c55, go_sem, stepW_iaddr_isl, stepW_iaddr_msl, stepW_idxs, stepK_iaddr_isl, stepK_iaddr_msl, stepK_idxs, ne_eq, ↓reduceIte]
  refine iteW_of (fun hq => ?_) (fun hq => ?_)
  · have h' := of_decide_eq_true hq
    have w1 := wrap64 (a := 0 - x) (by omega) (by omega)
    obtain ⟨y, hy⟩ : ∃ y, vals[(-x).toNat]? = some y := ⟨_, List.getElem?_eq_getElem (by omega)⟩
    have h0 : 0 ≤ 0 - x := by omega
    have h1 : 0 - x < (vals.length : Int) := by omega
    have hg : (ints vals)[(0 - x).toNat]? = some (.int .i64 y) := by rw [show (0 - x).toNat = (-x).toNat by omega]; exact ints_get hy
    simp only [hst, h.vl, stC, w1, h0, h1, hg, go_sem, stepW_iaddr_isl, stepW_iaddr_msl, stepW_idxs, stepK_iaddr_isl, stepK_iaddr_msl, stepK_idxs, ne_eq, ↓reduceIte]
    refine W_retR c55_ok rfl ⟨?_, rfl⟩
    simp [look, isT, h', hy]
  · have h' := of_decide_eq_false hq
    obtain ⟨y, hy⟩ : ∃ y, vals[x.toNat]? = some y := ⟨_, List.getElem?_eq_getElem (by omega)⟩
    have h0 : 0 ≤ x := by omega
    have h1 : x < (vals.length : Int) := by omega
    have hg : (ints vals)[x.toNat]? = some (.int .i64 y) := ints_get hy
    simp only [hst, h.vl, stC, h0, h1, hg, go_sem, stepW_iaddr_isl, stepW_iaddr_msl, stepW_idxs, stepK_iaddr_isl, stepK_iaddr_msl, stepK_idxs, ne_eq, ↓reduceIte]
    refine W_retR c55_ok rfl ⟨?_, rfl⟩
    simp [look, isT, h', hy]
theorem set_ok {vars x : Int} {cls : List (List Int)} {vals : List Int} {b bv : Nat} (h : StAt σ vars cls vals b bv) (hx : -vars ≤ x ∧ x ≤ vars) (hv : vars ≤ 1000000) :
    Ret Try.prog Γ 56 [.ptr b 0, .int .i64 x] σ (.tup []) (upd σ bv (ints (setT vals x))) := by
  refine ret_of c56_ok rfl ?_
  have hlen := h.len
  obtain ⟨cap, hcap, hst⟩ := h.st'
  simp only [c56, go_sem, stepW_iaddr_isl, stepW_iaddr_msl, stepW_idxs, stepK_iaddr_isl, stepK_iaddr_msl, stepK_idxs, ne_eq, ↓reduceIte]
  refine iteW_of (fun hq => ?_) (fun hq => ?_)
  · have h' := of_decide_eq_true hq
    have w1 := wrap64 (a := 0 - x) (by omega) (by omega)
    have h0 : 0 ≤ 0 - x := by omega
    have h1 : 0 - x < (vals.length : Int) := by omega
    have hle : (0 - x).toNat + 1 ≤ (ints vals).length := by rw [ints_len]; omega
    simp only [hst, h.vl, stC, w1, h0, h1, hle, go_sem, stepW_iaddr_isl, stepW_iaddr_msl, stepW_idxs, stepK_iaddr_isl, stepK_iaddr_msl, stepK_idxs, ne_eq, ↓reduceIte]
    refine W_fallR c56_ok rfl ⟨rfl, ?_⟩
    have : (ints vals).set (0 - x).toNat (.int .i64 (-1)) = ints (setT vals x) := by
      rw [show (0 - x).toNat = (-x).toNat by omega]; simp [ints, setT, h', List.map_set]
    rw [this]
  · have h' := of_decide_eq_false hq
    have h0 : 0 ≤ x := by omega
    have h1 : x < (vals.length : Int) := by omega
    have hle : x.toNat + 1 ≤ (ints vals).length := by rw [ints_len]; omega
    simp only [hst, h.vl, stC, h0, h1, hle, go_sem, stepW_iaddr_isl, stepW_iaddr_msl, stepW_idxs, stepK_iaddr_isl, stepK_iaddr_msl, stepK_idxs, ne_eq, ↓reduceIte]
    refine W_fallR c56_ok rfl ⟨rfl, ?_⟩
    have : (ints vals).set x.toNat (.int .i64 1) = ints (setT vals x) := by
      simp [ints, setT, h', List.map_set]
    rw [this]
def unitGo (vals : List Int) : List Int → Int → Int × Bool
  | [], one => (one, one == 0)
  | x :: r, one => bif isT vals x then (0, false) else bif isT vals (-x) || x == one then unitGo vals r one else bif one != 0 then (0, false) else unitGo vals r x
theorem unit_ok {vars : Int} {cls : List (List Int)} {vals xs : List Int} {b bv : Nat} {ex : Bool} (h : StAt σ vars cls vals b bv) (hx : ∀ x ∈ xs, litOK vars x) (hv : vars ≤ 1000000) (hl : xs.length ≤ 1000000) :
    Ret Try.prog Γ 103 [.ptr b 0, .isl ex 1 (ints xs)] σ (.tup [.int .i64 (unitGo vals xs 0).1, .bool (unitGo vals xs 0).2]) σ := by
  refine ret_of c103_ok rfl ?_
  simp only [c103, ints_len, go_sem, stepW_iaddr_isl, stepW_iaddr_msl, stepW_idxs, stepK_iaddr_isl, stepK_iaddr_msl, stepK_idxs, ne_eq, ↓reduceIte]
  refine W_loopR (fun m T σ' => ∃ (i : Nat) (one : Int), i + m = xs.length ∧ look T 0 = .ptr b 0 ∧ look T 9 = .isl ex 1 (ints xs) ∧ look T 10 = .int .i64 xs.length ∧ look T 11 = .int .i64 i ∧ look T 6 = .int .i64 one ∧ σ' = σ ∧ unitGo vals xs 0 = unitGo vals (xs.drop i) one) xs.length ?_ ?_
  · exact ⟨0, 0, by omega, rfl, rfl, rfl, rfl, rfl, rfl, rfl⟩
  · rintro m T σ' ih ⟨i, one, hm, h0, h9, h10, h11, h6, rfl, hgo⟩
    simp only [h0, h9, h10, h11, h6, go_sem, stepW_iaddr_isl, stepW_iaddr_msl, stepW_idxs, stepK_iaddr_isl, stepK_iaddr_msl, stepK_idxs, ne_eq, ↓reduceIte]
    refine iteW_of (fun hq => ?_) (fun hq => ?_)
    · have h' := of_decide_eq_true hq
      have hlt : i < xs.length := by omega
      have hget : (ints xs)[i]? = some (.int .i64 xs[i]) := ints_get (by simp [hlt])
      have hdrop : xs.drop i = xs[i] :: xs.drop (i + 1) := List.drop_eq_getElem_cons hlt
      have hlit := hx xs[i] (List.getElem_mem hlt)
      generalize xs[i] = x at hget hdrop hlit
      have w1 := wrap64 (a := (i : Int) + 1) (by omega) (by omega)
      have w2 := wrap64 (a := 0 - x) (by have := hlit.2; omega) (by have := hlit.2; omega)
      have h00 : (0 : Int) ≤ (i : Int) := by omega
      rw [hdrop] at hgo
      simp only [unitGo] at hgo
      simp only [h0, h9, h10, h11, h6, h00, hget, Int.toNat_natCast, go_sem, stepW_iaddr_isl, stepW_iaddr_msl, stepW_idxs, stepK_iaddr_isl, stepK_iaddr_msl, stepK_idxs, ne_eq, ↓reduceIte]
      refine SRun.callR (is_ok h hlit.2 hv) ⟨[], rfl, rfl⟩ rfl ?_
      simp only [go_sem, stepW_iaddr_isl, stepW_iaddr_msl, stepW_idxs, stepK_iaddr_isl, stepK_iaddr_msl, stepK_idxs, ne_eq, ↓reduceIte]
      have next : ∀ T one', look T 0 = .ptr b 0 → look T 9 = .isl ex 1 (ints xs) → look T 10 = .int .i64 xs.length → look T 11 = .int .i64 i → look T 6 = .int .i64 one' → unitGo vals xs 0 = unitGo vals (xs.drop (i + 1)) one' → True := fun _ _ _ _ _ _ _ _ => trivial
      refine iteW_of (fun hb => ?_) (fun hb => ?_)
      · simp only [go_sem, stepW_iaddr_isl, stepW_iaddr_msl, stepW_idxs, stepK_iaddr_isl, stepK_iaddr_msl, stepK_idxs, ne_eq, ↓reduceIte]
        rw [hb] at hgo
        refine W_retR c103_ok rfl ⟨?_, rfl⟩
        rw [hgo]; rfl
      · rw [hb] at hgo
        simp only [cond_false] at hgo
        simp only [h0, w2, go_sem, stepW_iaddr_isl, stepW_iaddr_msl, stepW_idxs, stepK_iaddr_isl, stepK_iaddr_msl, stepK_idxs, ne_eq, ↓reduceIte]
        have hneg : (0 : Int) - x = -x := by omega
        rw [hneg]
        refine SRun.callR (is_ok h (by have := hlit.2; omega) hv) ⟨[], rfl, rfl⟩ rfl ?_
        simp only [go_sem, stepW_iaddr_isl, stepW_iaddr_msl, stepW_idxs, stepK_iaddr_isl, stepK_iaddr_msl, stepK_idxs, ne_eq, ↓reduceIte]
        refine guardW_of (fun hc => ?_) (fun hc => ?_)
        · rw [hc] at hgo
          simp only [Bool.true_or, cond_true] at hgo
          simp only [hc, h11, w1, go_sem, stepW_iaddr_isl, stepW_iaddr_msl, stepW_idxs, stepK_iaddr_isl, stepK_iaddr_msl, stepK_idxs, ne_eq, ↓reduceIte]
          refine ih (m - 1) _ _ (by omega) ⟨i + 1, one, by omega, ?_, ?_, ?_, rfl, ?_, rfl, hgo⟩
          · simp only [go_sem, stepW_iaddr_isl, stepW_iaddr_msl, stepW_idxs, stepK_iaddr_isl, stepK_iaddr_msl, stepK_idxs, ne_eq, ↓reduceIte]; exact h0
          · simp only [go_sem, stepW_iaddr_isl, stepW_iaddr_msl, stepW_idxs, stepK_iaddr_isl, stepK_iaddr_msl, stepK_idxs, ne_eq, ↓reduceIte]; exact h9
          · simp only [go_sem, stepW_iaddr_isl, stepW_iaddr_msl, stepW_idxs, stepK_iaddr_isl, stepK_iaddr_msl, stepK_idxs, ne_eq, ↓reduceIte]; exact h10
          · simp only [go_sem, stepW_iaddr_isl, stepW_iaddr_msl, stepW_idxs, stepK_iaddr_isl, stepK_iaddr_msl, stepK_idxs, ne_eq, ↓reduceIte]; exact h6
        · rw [hc] at hgo
          simp only [Bool.false_or] at hgo
          simp only [hc, h6, go_sem, stepW_iaddr_isl, stepW_iaddr_msl, stepW_idxs, stepK_iaddr_isl, stepK_iaddr_msl, stepK_idxs, ne_eq, ↓reduceIte]
          refine iteW_of (fun hd => ?_) (fun hd => ?_)
          · rw [hd] at hgo
            simp only [cond_true] at hgo
            simp only [h11, w1, go_sem, stepW_iaddr_isl, stepW_iaddr_msl, stepW_idxs, stepK_iaddr_isl, stepK_iaddr_msl, stepK_idxs, ne_eq, ↓reduceIte]
            refine ih (m - 1) _ _ (by omega) ⟨i + 1, one, by omega, ?_, ?_, ?_, rfl, ?_, rfl, hgo⟩
            · simp only [go_sem, stepW_iaddr_isl, stepW_iaddr_msl, stepW_idxs, stepK_iaddr_isl, stepK_iaddr_msl, stepK_idxs, ne_eq, ↓reduceIte]; exact h0
            · simp only [go_sem, stepW_iaddr_isl, stepW_iaddr_msl, stepW_idxs, stepK_iaddr_isl, stepK_iaddr_msl, stepK_idxs, ne_eq, ↓reduceIte]; exact h9
            · simp only [go_sem, stepW_iaddr_isl, stepW_iaddr_msl, stepW_idxs, stepK_iaddr_isl, stepK_iaddr_msl, stepK_idxs, ne_eq, ↓reduceIte]; exact h10
            · simp only [go_sem, stepW_iaddr_isl, stepW_iaddr_msl, stepW_idxs, stepK_iaddr_isl, stepK_iaddr_msl, stepK_idxs, ne_eq, ↓reduceIte]; exact h6
          · rw [hd] at hgo
            simp only [cond_false] at hgo
            simp only [h6, go_sem, stepW_iaddr_isl, stepW_iaddr_msl, stepW_idxs, stepK_iaddr_isl, stepK_iaddr_msl, stepK_idxs, ne_eq, ↓reduceIte]
            refine iteW_of (fun he => ?_) (fun he => ?_)
            · rw [he] at hgo
              simp only [cond_true] at hgo
              simp only [go_sem, stepW_iaddr_isl, stepW_iaddr_msl, stepW_idxs, stepK_iaddr_isl, stepK_iaddr_msl, stepK_idxs, ne_eq, ↓reduceIte]
              refine W_retR c103_ok rfl ⟨?_, rfl⟩
              rw [hgo]; rfl
            · rw [he] at hgo
              simp only [cond_false] at hgo
              simp only [h11, w1, go_sem, stepW_iaddr_isl, stepW_iaddr_msl, stepW_idxs, stepK_iaddr_isl, stepK_iaddr_msl, stepK_idxs, ne_eq, ↓reduceIte]
              refine ih (m - 1) _ _ (by omega) ⟨i + 1, x, by omega, ?_, ?_, ?_, rfl, rfl, rfl, hgo⟩
              · simp only [go_sem, stepW_iaddr_isl, stepW_iaddr_msl, stepW_idxs, stepK_iaddr_isl, stepK_iaddr_msl, stepK_idxs, ne_eq, ↓reduceIte]; exact h0
              · simp only [go_sem, stepW_iaddr_isl, stepW_iaddr_msl, stepW_idxs, stepK_iaddr_isl, stepK_iaddr_msl, stepK_idxs, ne_eq, ↓reduceIte]; exact h9
              · simp only [go_sem, stepW_iaddr_isl, stepW_iaddr_msl, stepW_idxs, stepK_iaddr_isl, stepK_iaddr_msl, stepK_idxs, ne_eq, ↓reduceIte]; exact h10
    · have h' := of_decide_eq_false hq
      have : xs.drop i = [] := List.drop_eq_nil_of_le (by omega)
      rw [this] at hgo
      simp only [h6, go_sem, stepW_iaddr_isl, stepW_iaddr_msl, stepW_idxs, stepK_iaddr_isl, stepK_iaddr_msl, stepK_idxs, ne_eq, ↓reduceIte]
      refine W_retR c103_ok rfl ⟨?_, rfl⟩
      rw [hgo]; rfl
def scanGo (vals : List Int) : List (List Int) → Nat → Int → Option Nat × Int
  | [], _, next => (none, next)
  | c :: r, i, next => bif (unitGo vals c 0).2 then (some i, next) else scanGo vals r (i + 1) (bif next == 0 then (unitGo vals c 0).1 else next)
def propGo (cls : List (List Int)) : Nat → List Int → List Int → List Int × Int × List Int
  | 0, vals, list => (list, -1, vals)
  | f + 1, vals, list => match scanGo vals cls 0 0 with
    | (some i, _) => (list, i, vals)
    | (none, next) => bif next == 0 then (list, -1, vals) else propGo cls f (setT vals next) (list ++ [next])
def zeros (vals : List Int) : Nat := (vals.drop 1).count 0
def tri (vals : List Int) : Prop := ∀ v ∈ vals, v = -1 ∨ v = 0 ∨ v = 1
def free (vals : List Int) (x : Int) : Prop := isT vals x = false ∧ isT vals (-x) = false
theorem unitGo_free {vals : List Int} : ∀ {xs : List Int} {one : Int}, (one = 0 ∨ free vals one) → (unitGo vals xs one).1 = 0 ∨ (free vals (unitGo vals xs one).1 ∧ ((unitGo vals xs one).1 ∈ xs ∨ (unitGo vals xs one).1 = one)) := by
  intro xs
  induction xs with
  | nil => intro one h; exact h.imp id fun h => ⟨h, .inr rfl⟩
  | cons x r ih =>
    intro one h
    simp only [unitGo]
    cases h1 : isT vals x with
    | true => exact .inl rfl
    | false =>
      simp only [cond_false]
      cases h2 : isT vals (-x) || x == one with
      | true =>
        simp only [cond_true]
        exact (ih h).imp id fun ⟨a, b⟩ => ⟨a, b.imp (fun h => by simp [h]) id⟩
      | false =>
        simp only [cond_false]
        rw [Bool.or_eq_false_iff] at h2
        cases h3 : one != 0 with
        | true => exact .inl rfl
        | false =>
          simp only [cond_false]
          exact (ih (.inr ⟨h1, h2.1⟩)).imp id fun ⟨a, b⟩ => ⟨a, .inl (by rcases b with b | b <;> simp [b])⟩
theorem scanGo_free {vals : List Int} : ∀ {cls : List (List Int)} {i : Nat} {next : Int}, (next = 0 ∨ free vals next) → (scanGo vals cls i next).2 = 0 ∨ (free vals (scanGo vals cls i next).2 ∧ ((∃ c ∈ cls, (scanGo vals cls i next).2 ∈ c) ∨ (scanGo vals cls i next).2 = next)) := by
  intro cls
  induction cls with
  | nil => intro i next h; exact h.imp id fun h => ⟨h, .inr rfl⟩
  | cons c r ih =>
    intro i next h
    simp only [scanGo]
    cases h1 : (unitGo vals c 0).2 with
    | true => exact h.imp id fun h => ⟨h, .inr rfl⟩
    | false =>
      simp only [cond_false]
      cases h2 : next == 0 with
      | false =>
        simp only [cond_false]
        exact (ih h).imp id fun ⟨a, b⟩ => ⟨a, b.imp (fun ⟨c, hc, hm⟩ => ⟨c, by simp [hc], hm⟩) id⟩
      | true =>
        simp only [cond_true]
        have hu := unitGo_free (vals := vals) (xs := c) (one := 0) (.inl rfl)
        rcases ih (i := i + 1) (hu.imp id fun ⟨a, _⟩ => a) with hr | ⟨hr1, hr2⟩
        · exact .inl hr
        · rcases hr2 with ⟨c2, hc2, hm⟩ | hr2
          · exact .inr ⟨hr1, .inl ⟨c2, by simp [hc2], hm⟩⟩
          · rcases hu with hu | ⟨hu1, hu2⟩
            · exact .inl (hr2.trans hu)
            · rcases hu2 with hu2 | hu2
              · exact .inr ⟨hr1, .inl ⟨c, by simp, by rw [hr2]; exact hu2⟩⟩
              · exact .inl (hr2.trans hu2)
/-- A variable of which nothing is known is one less then. -/
theorem free_get {vars x : Int} {vals : List Int} (hl : (vals.length : Int) = vars + 1) (ht : tri vals) (hx : litOK vars x) (hf : free vals x) : vals[x.natAbs]? = some 0 := by
  have hlt : x.natAbs < vals.length := by have := hx.2; omega
  have hg : vals[x.natAbs]? = some vals[x.natAbs] := by simp [hlt]
  rw [hg]
  have hm := ht vals[x.natAbs] (List.getElem_mem hlt)
  have h1 := hf.1; have h2 := hf.2
  unfold isT at h1 h2
  by_cases hneg : x < 0
  · rw [if_pos hneg] at h1
    rw [if_neg (by omega)] at h2
    have e : (-x).toNat = x.natAbs := by omega
    rw [e] at h1 h2
    simp only [List.getD, hg, Option.getD_some, beq_eq_false_iff_ne, ne_eq] at h1 h2
    rcases hm with h | h | h
    · exact absurd h h1
    · rw [h]
    · exact absurd h h2
  · have hpos : 0 < x := by have := hx.1; omega
    rw [if_neg hneg] at h1
    rw [if_pos (by omega)] at h2
    have e : x.toNat = x.natAbs := by omega
    have e2 : (- -x).toNat = x.natAbs := by omega
    rw [e] at h1; rw [e2] at h2
    simp only [List.getD, hg, Option.getD_some, beq_eq_false_iff_ne, ne_eq] at h1 h2
    rcases hm with h | h | h
    · exact absurd h h2
    · rw [h]
    · exact absurd h h1
theorem setT_eq (vals : List Int) (x : Int) : setT vals x = vals.set x.natAbs (if x < 0 then -1 else 1) := by
  unfold setT
  split
  · rw [show (-x).toNat = x.natAbs by omega]
  · rw [show x.toNat = x.natAbs by omega]
theorem tri_set {vals : List Int} (ht : tri vals) (x : Int) : tri (setT vals x) := by
  intro v hv
  rw [setT_eq] at hv
  rcases List.mem_or_eq_of_mem_set hv with h | h
  · exact ht v h
  · split at h <;> omega
theorem count_set {l : List Int} {i : Nat} {v : Int} (h : l[i]? = some 0) (hv : v ≠ 0) : (l.set i v).count 0 + 1 = l.count 0 := by
  induction l generalizing i with
  | nil => simp at h
  | cons a r ih =>
    cases i with
    | zero =>
      simp at h; subst h
      simp [List.count_cons, hv]
    | succ i =>
      simp at h
      have := ih h
      simp only [List.set_cons_succ, List.count_cons]
      omega
theorem zeros_set {vars x : Int} {vals : List Int} (hl : (vals.length : Int) = vars + 1) (ht : tri vals) (hx : litOK vars x) (hf : free vals x) : zeros (setT vals x) + 1 = zeros vals := by
  have hg := free_get hl ht hx hf
  rw [setT_eq]
  unfold zeros
  have h0 : x.natAbs ≠ 0 := by have := hx.1; omega
  obtain ⟨k, hk⟩ : ∃ k, x.natAbs = k + 1 := ⟨x.natAbs - 1, by omega⟩
  cases vals with
  | nil => simp at hg
  | cons a r =>
    rw [hk] at hg ⊢
    simp only [List.getElem?_cons_succ, List.set_cons_succ, List.drop_succ_cons, List.drop_zero] at hg ⊢
    exact count_set hg (by split <;> omega)
theorem StAt.mono {σ' : St} {vars : Int} {cls : List (List Int)} {vals : List Int} {b bv : Nat} (h : StAt σ vars cls vals b bv) (hle : ∀ b c, σ b = some c → σ' b = some c) : StAt σ' vars cls vals b bv :=
  ⟨h.st'.imp fun cap hc => ⟨hc.1, hle _ _ hc.2⟩, hle _ _ h.vl, h.len, h.ne⟩
theorem StAt.set {vars : Int} {cls : List (List Int)} {vals vals' : List Int} {b bv : Nat} (h : StAt σ vars cls vals b bv) (hl : vals'.length = vals.length) : StAt (upd σ bv (ints vals')) vars cls vals' b bv :=
  ⟨h.st'.imp fun cap hc => ⟨by rw [hl]; exact hc.1, by rw [upd_ne _ _ h.ne.symm, hl]; exact hc.2⟩, upd_same _ _ _, by rw [hl]; exact h.len, h.ne⟩
/-- The clauses of a formula of some variables. -/
def ClsOK (vars : Int) (cls : List (List Int)) : Prop := Small cls ∧ ∀ c ∈ cls, ∀ x ∈ c, litOK vars x
theorem propagate_ok {vars : Int} {cls : List (List Int)} {vals : List Int} {b bv : Nat} (h : StAt σ vars cls vals b bv) (hv : vars ≤ 1000000) (hc : ClsOK vars cls) (ht : tri vals) :
    ACalls Try.prog Γ 57 [.ptr b 0] σ fun r σ' => ∃ rl, r = .tup [rl, .int .i64 (propGo cls (zeros vals + 1) vals []).2.1] ∧ OwnS (upd σ bv (ints (propGo cls (zeros vals + 1) vals []).2.2)) 1 (ints (propGo cls (zeros vals + 1) vals []).1) (propGo cls (zeros vals + 1) vals []).1.length rl σ' := by
  generalize hR : propGo cls (zeros vals + 1) vals [] = R
  refine acalls_W c57_ok rfl ?_
  simp only [c57, go_sem, stepW_iaddr_isl, stepW_iaddr_msl, stepW_idxs, stepK_iaddr_isl, stepK_iaddr_msl, stepK_idxs, ne_eq, ↓reduceIte]
  refine W_loopR (fun m T σ' => ∃ (v2 : List Int) (list : List Int), m = zeros v2 ∧ look T 0 = .ptr b 0 ∧ v2.length = vals.length ∧ tri v2 ∧ list.length ≤ vals.length ∧ list.length + zeros v2 ≤ vals.length ∧ propGo cls (zeros v2 + 1) v2 list = R ∧ OwnS (upd σ bv (ints v2)) 1 (ints list) list.length (look T 4) σ') (zeros vals) ?_ ?_
  · refine ⟨vals, [], rfl, rfl, rfl, ht, by simp, ?_, hR, ?_⟩
    · have : zeros vals ≤ (vals.drop 1).length := List.count_le_length
      simp at this ⊢; omega
    · rw [upd_self σ h.vl]; exact OwnS.nil _ _
  · rintro m T σ' ih ⟨v2, list, hm, h0, hlv, ht2, hll, hlz, hgo, ho⟩
    have hst : StAt σ' vars cls v2 b bv := (h.set hlv).mono ho.le
    have hlen := h.len
    obtain ⟨cap, hcap, hst0⟩ := hst.st'
    simp only [h0, hst0, stC, clsV_len, go_sem, stepW_iaddr_isl, stepW_iaddr_msl, stepW_idxs, stepK_iaddr_isl, stepK_iaddr_msl, stepK_idxs, ne_eq, ↓reduceIte]
    refine W_loopR (fun m2 T σ2 => ∃ (i : Nat) (next : Int), i + m2 = cls.length ∧ σ2 = σ' ∧ look T 0 = .ptr b 0 ∧ OwnS (upd σ bv (ints v2)) 1 (ints list) list.length (look T 4) σ' ∧ look T 5 = .int .i64 next ∧ look T 14 = .isl false 1 (clsV cls) ∧ look T 15 = .int .i64 cls.length ∧ look T 16 = .int .i64 i ∧ scanGo v2 cls 0 0 = scanGo v2 (cls.drop i) i next) cls.length ?_ ?_
    · exact ⟨0, 0, by omega, rfl, h0, ho, rfl, rfl, rfl, rfl, rfl⟩
    · rintro m2 T σ2 ih2 ⟨i, next, hm2, rfl, h0, ho, h5, h14, h15, h16, hsc⟩
      have hcl := hc.1.1
      simp only [h0, h5, h14, h15, h16, go_sem, stepW_iaddr_isl, stepW_iaddr_msl, stepW_idxs, stepK_iaddr_isl, stepK_iaddr_msl, stepK_idxs, ne_eq, ↓reduceIte]
      refine iteW_of (fun hq => ?_) (fun hq => ?_)
      · have h' := of_decide_eq_true hq
        have hlt : i < cls.length := by omega
        have hget : (clsV cls)[i]? = some (.isl false 1 (ints cls[i])) := by simp [clsV, intsV, hlt]
        have hdrop : cls.drop i = cls[i] :: cls.drop (i + 1) := List.drop_eq_getElem_cons hlt
        have hmem := List.getElem_mem hlt
        have hlit := hc.2 _ hmem
        have hsm := hc.1.2 _ hmem
        generalize cls[i] = c at hget hdrop hlit hsm
        have w1 := wrap64 (a := (i : Int) + 1) (by omega) (by omega)
        have h00 : (0 : Int) ≤ (i : Int) := by omega
        rw [hdrop] at hsc
        simp only [scanGo] at hsc
        simp only [h0, h5, h14, h15, h16, h00, hget, Int.toNat_natCast, go_sem, stepW_iaddr_isl, stepW_iaddr_msl, stepW_idxs, stepK_iaddr_isl, stepK_iaddr_msl, stepK_idxs, ne_eq, ↓reduceIte]
        refine SRun.callR (unit_ok hst hlit hv hsm) ⟨[], rfl, rfl⟩ rfl ?_
        simp only [List.getD_cons_zero, List.getD_cons_succ, go_sem, stepW_iaddr_isl, stepW_iaddr_msl, stepW_idxs, stepK_iaddr_isl, stepK_iaddr_msl, stepK_idxs, ne_eq, ↓reduceIte]
        refine iteW_of (fun hb => ?_) (fun hb => ?_)
        · rw [hb] at hsc
          simp only [cond_true] at hsc
          simp only [go_sem, stepW_iaddr_isl, stepW_iaddr_msl, stepW_idxs, stepK_iaddr_isl, stepK_iaddr_msl, stepK_idxs, ne_eq, ↓reduceIte]
          simp only [propGo, hsc] at hgo
          subst hgo
          exact W_retR c57_ok rfl ⟨_, rfl, ho⟩
        · rw [hb] at hsc
          simp only [cond_false] at hsc
          simp only [h5, go_sem, stepW_iaddr_isl, stepW_iaddr_msl, stepW_idxs, stepK_iaddr_isl, stepK_iaddr_msl, stepK_idxs, ne_eq, ↓reduceIte]
          refine iteW_of (fun hd => ?_) (fun hd => ?_)
          · rw [hd] at hsc
            simp only [cond_true] at hsc
            simp only [h16, w1, go_sem, stepW_iaddr_isl, stepW_iaddr_msl, stepW_idxs, stepK_iaddr_isl, stepK_iaddr_msl, stepK_idxs, ne_eq, ↓reduceIte]
            refine ih2 (m2 - 1) _ _ (by omega) ⟨i + 1, _, by omega, rfl, ?_, ?_, rfl, ?_, ?_, rfl, hsc⟩
            · simp only [go_sem, stepW_iaddr_isl, stepW_iaddr_msl, stepW_idxs, stepK_iaddr_isl, stepK_iaddr_msl, stepK_idxs, ne_eq, ↓reduceIte]; exact h0
            · simp only [go_sem, stepW_iaddr_isl, stepW_iaddr_msl, stepW_idxs, stepK_iaddr_isl, stepK_iaddr_msl, stepK_idxs, ne_eq, ↓reduceIte]; exact ho
            · simp only [go_sem, stepW_iaddr_isl, stepW_iaddr_msl, stepW_idxs, stepK_iaddr_isl, stepK_iaddr_msl, stepK_idxs, ne_eq, ↓reduceIte]; exact h14
            · simp only [go_sem, stepW_iaddr_isl, stepW_iaddr_msl, stepW_idxs, stepK_iaddr_isl, stepK_iaddr_msl, stepK_idxs, ne_eq, ↓reduceIte]; exact h15
          · rw [hd] at hsc
            simp only [cond_false] at hsc
            simp only [h16, w1, go_sem, stepW_iaddr_isl, stepW_iaddr_msl, stepW_idxs, stepK_iaddr_isl, stepK_iaddr_msl, stepK_idxs, ne_eq, ↓reduceIte]
            refine ih2 (m2 - 1) _ _ (by omega) ⟨i + 1, next, by omega, rfl, ?_, ?_, ?_, ?_, ?_, rfl, hsc⟩
            · simp only [go_sem, stepW_iaddr_isl, stepW_iaddr_msl, stepW_idxs, stepK_iaddr_isl, stepK_iaddr_msl, stepK_idxs, ne_eq, ↓reduceIte]; exact h0
            · simp only [go_sem, stepW_iaddr_isl, stepW_iaddr_msl, stepW_idxs, stepK_iaddr_isl, stepK_iaddr_msl, stepK_idxs, ne_eq, ↓reduceIte]; exact ho
            · simp only [go_sem, stepW_iaddr_isl, stepW_iaddr_msl, stepW_idxs, stepK_iaddr_isl, stepK_iaddr_msl, stepK_idxs, ne_eq, ↓reduceIte]; exact h5
            · simp only [go_sem, stepW_iaddr_isl, stepW_iaddr_msl, stepW_idxs, stepK_iaddr_isl, stepK_iaddr_msl, stepK_idxs, ne_eq, ↓reduceIte]; exact h14
            · simp only [go_sem, stepW_iaddr_isl, stepW_iaddr_msl, stepW_idxs, stepK_iaddr_isl, stepK_iaddr_msl, stepK_idxs, ne_eq, ↓reduceIte]; exact h15
      · have h' := of_decide_eq_false hq
        have : cls.drop i = [] := List.drop_eq_nil_of_le (by omega)
        rw [this] at hsc
        simp only [scanGo] at hsc
        simp only [h5, go_sem, stepW_iaddr_isl, stepW_iaddr_msl, stepW_idxs, stepK_iaddr_isl, stepK_iaddr_msl, stepK_idxs, ne_eq, ↓reduceIte]
        refine iteW_of (fun hd => ?_) (fun hd => ?_)
        · simp only [go_sem, stepW_iaddr_isl, stepW_iaddr_msl, stepW_idxs, stepK_iaddr_isl, stepK_iaddr_msl, stepK_idxs, ne_eq, ↓reduceIte]
          simp only [propGo, hsc, hd, cond_true] at hgo
          subst hgo
          exact W_retR c57_ok rfl ⟨_, rfl, ho⟩
        · have hfr := scanGo_free (vals := v2) (cls := cls) (i := 0) (next := 0) (.inl rfl)
          rw [hsc] at hfr
          have hne : next ≠ 0 := by simpa using hd
          obtain ⟨hf, hin⟩ := hfr.resolve_left hne
          obtain ⟨c, hcm, hnm⟩ := hin.resolve_right hne
          have hlo := hc.2 c hcm next hnm
          have hz := zeros_set (by rw [hlv]; exact h.len) ht2 hlo hf
          simp only [h0, h5, go_sem, stepW_iaddr_isl, stepW_iaddr_msl, stepW_idxs, stepK_iaddr_isl, stepK_iaddr_msl, stepK_idxs, ne_eq, ↓reduceIte]
          refine SRun.callR (set_ok hst hlo.2 hv) ⟨[], rfl, rfl⟩ rfl ?_
          simp only [go_sem, stepW_iaddr_isl, stepW_iaddr_msl, stepW_idxs, stepK_iaddr_isl, stepK_iaddr_msl, stepK_idxs, ne_eq, ↓reduceIte]
          have ho2 := ho.upd (c' := ints (setT v2 next)) (upd_same _ bv _)
          rw [upd_upd] at ho2
          simp only [h5, go_sem, stepW_iaddr_isl, stepW_iaddr_msl, stepW_idxs, stepK_iaddr_isl, stepK_iaddr_msl, stepK_idxs, ne_eq, ↓reduceIte]
          refine SRun.appO ho2 src_i rfl (by omega) ?_
          intro r σ4 ho4
          rw [ints_app] at ho4
          simp only [go_sem, stepW_iaddr_isl, stepW_iaddr_msl, stepW_idxs, stepK_iaddr_isl, stepK_iaddr_msl, stepK_idxs, ne_eq, ↓reduceIte]
          refine ih (m - 1) _ _ (by omega) ⟨setT v2 next, list ++ [next], by omega, ?_, by rw [setT_length]; exact hlv, tri_set ht2 _, by simp; omega, by simp; omega, ?_, by rw [List.length_append]; exact ho4⟩
          · simp only [go_sem, stepW_iaddr_isl, stepW_iaddr_msl, stepW_idxs, stepK_iaddr_isl, stepK_iaddr_msl, stepK_idxs, ne_eq, ↓reduceIte]; exact h0
          · rw [show zeros v2 + 1 = (zeros (setT v2 next) + 1) + 1 by omega] at hgo
            rw [propGo] at hgo
            simp only [hsc, hd, cond_false] at hgo
            exact hgo
/-- A state that has been made. -/
def StOwn (σ0 : St) (vars : Int) (cls : List (List Int)) (vals : List Int) (r : V) (σ : St) : Prop :=
  ∃ b bv cap, σ0 b = none ∧ σ0 bv = none ∧ bv ≠ b ∧ vals.length ≤ cap ∧ r = .ptr b 0 ∧ σ = upd (upd σ0 bv (ints vals)) b (stC vars cls bv vals.length cap)
theorem newState_ok {vars : Int} {cls : List (List Int)} (hv : 0 ≤ vars ∧ vars ≤ 1000000) : ACalls Try.prog Γ 53 [cnfV vars cls] σ fun r σ' => StOwn σ vars cls (List.replicate (vars + 1).toNat 0) r σ' := by
  refine acalls_W c53_ok rfl ?_
  obtain ⟨N, hN⟩ : ∃ N : Nat, vars + 1 = N := ⟨(vars + 1).toNat, by omega⟩
  have w1 := wrap64 (a := vars + 1) (by omega) (by omega)
  rw [hN] at w1
  simp only [c53, cnfV, go_sem, stepW_iaddr_isl, stepW_iaddr_msl, stepW_idxs, stepK_iaddr_isl, stepK_iaddr_msl, stepK_idxs, ne_eq, ↓reduceIte]
  refine SRun.boxR (by simp [ev, look, V.cells, V.one]) ?_
  intro b1 hb1
  simp only [go_sem, stepW_iaddr_isl, stepW_iaddr_msl, stepW_idxs, stepK_iaddr_isl, stepK_iaddr_msl, stepK_idxs, ne_eq, ↓reduceIte]
  rw [W_draw]
  refine DRun.start (DRun.mixR (upd_same _ _ _) rfl ?_)
  simp only [hN, w1, go_sem, stepW_iaddr_isl, stepW_iaddr_msl, stepW_idxs, stepK_iaddr_isl, stepK_iaddr_msl, stepK_idxs, ne_eq, ↓reduceIte]
  refine DS.wrQ (WrF.mksl (n' := N) (m := N) rfl rfl rfl (Nat.le_refl _) (by omega) (by omega)) rfl ?_
  rintro r s ⟨bv, hbv, rfl, rfl⟩ hd
  obtain ⟨e, hne⟩ := cup_upd_one (s := σ) (upd_same σ b1 _) hd
  rw [del_ne _ hne, upd_ne _ _ hne] at hbv
  simp only [e, go_sem, stepW_iaddr_isl, stepW_iaddr_msl, stepW_idxs, stepK_iaddr_isl, stepK_iaddr_msl, stepK_idxs, ne_eq, ↓reduceIte]
  refine DRun.boxR (by simp [ev, look, V.cells, V.one]) ?_
  intro b hb
  have hn := upd_none.1 hb
  have hn2 := upd_none.1 hn.2
  simp only [go_sem, stepW_iaddr_isl, stepW_iaddr_msl, stepW_idxs, stepK_iaddr_isl, stepK_iaddr_msl, stepK_idxs, ne_eq, ↓reduceIte]
  have hz : (List.replicate N [V.int IntKind.i64 0]).flatten = ints (List.replicate N 0) := by simp [ints]
  rw [Int.toNat_natCast, hz]
  refine W_retC c53_ok rfl (Conv.drop _ (σ' := upd (upd σ bv (ints (List.replicate N 0))) b (stC vars cls bv (List.replicate N 0).length N)) ?_) ⟨b, bv, N, hn2.2, hbv, fun e => hn.1 e.symm, by simp, rfl, rfl⟩
  intro c x hc
  by_cases hcb : c = b
  · subst hcb
    rw [upd_same] at hc
    simp only [ev, look, ↓reduceIte, upd_same, V.cells, Nat.reduceEqDiff]
    simpa [stC] using hc
  · rw [upd_ne _ _ hcb] at hc ⊢
    by_cases hcv : c = bv
    · subst hcv; rw [upd_same] at hc ⊢; exact hc
    · rw [upd_ne _ _ hcv] at hc ⊢
      exact le_upd hb1 _ _ hc
theorem open_ok {vars : Int} {cls : List (List Int)} {vals : List Int} {b bv : Nat} (h : StAt σ vars cls vals b bv) (hv : 1 ≤ vars ∧ vars ≤ 1000000) :
    Ret Try.prog Γ 123 [.ptr b 0] σ (.int .i64 (findZ (vals.drop 1) 0 + 1)) σ := by
  refine ret_of c123_ok rfl ?_
  have hlen := h.len
  obtain ⟨cap, hcap, hst⟩ := h.st'
  have h1 : (1 : Int) ≤ vals.length := by omega
  have h2 : ((cap : Int) = 1) = False := by simp; omega
  have h3 : (vals.length : Int) ≤ (cap : Int) := by omega
  simp only [c123, hst, stC, h1, h2, h3, go_sem, stepW_iaddr_isl, stepW_iaddr_msl, stepW_idxs, stepK_iaddr_isl, stepK_iaddr_msl, stepK_idxs, ne_eq, ↓reduceIte]
  obtain ⟨a, ys, rfl⟩ : ∃ a ys, vals = a :: ys := by
    cases vals with
    | nil => simp at hlen; omega
    | cons a ys => exact ⟨a, ys, rfl⟩
  simp only [List.length_cons] at hlen h1 h3 hcap ⊢
  have e1 : (((ys.length + 1 : Nat) : Int) - 1).toNat = ys.length := by omega
  simp only [e1]
  refine SRun.callR (indexI_ok (xs := ys) h.vl (by rw [List.take_of_length_le (by simp [ints])]; rfl) (by omega)) ⟨[], rfl, rfl⟩ rfl ?_
  have hb := findZ_in ys 0
  have w1 := wrap64 (a := findZ ys 0 + 1) (by omega) (by omega)
  simp only [w1, go_sem, stepW_iaddr_isl, stepW_iaddr_msl, stepW_idxs, stepK_iaddr_isl, stepK_iaddr_msl, stepK_idxs, ne_eq, ↓reduceIte]
  refine W_retR c123_ok rfl ⟨?_, rfl⟩
  simp only [look, ↓reduceIte, V.int.injEq, true_and, List.drop_succ_cons, List.drop_zero]
  split <;> omega
theorem stclone_ok {vars : Int} {cls : List (List Int)} {vals : List Int} {b bv : Nat} (h : StAt σ vars cls vals b bv) (hv : 1 ≤ vars ∧ vars ≤ 1000000) :
    ACalls Try.prog Γ 124 [.ptr b 0] σ fun r σ' => StOwn σ vars cls vals r σ' := by
  refine acalls_W c124_ok rfl ?_
  simp only [c124, go_sem, stepW_iaddr_isl, stepW_iaddr_msl, stepW_idxs, stepK_iaddr_isl, stepK_iaddr_msl, stepK_idxs, ne_eq, ↓reduceIte]
  rw [W_draw]
  obtain ⟨cap0, hcap0, hst⟩ := h.st'
  refine DRun.start (DRun.mixR hst rfl ?_)
  simp only [upd_same, stC, go_sem, stepW_iaddr_isl, stepW_iaddr_msl, stepW_idxs, stepK_iaddr_isl, stepK_iaddr_msl, stepK_idxs, ne_eq, ↓reduceIte]
  have hsrc : srcV (del σ b) 1 (.msl bv 1 0 vals.length cap0) = some (ints vals, (ints vals).length) := by
    simp only [srcV, if_true, del_ne _ h.ne, h.vl]
    rw [if_pos (by rw [ints_len]; omega)]
    simp [ints_len, List.take_of_length_le]
  have hlen := h.len
  refine DS.callQ (cloneI_ok (.inr ⟨_, _, _, _, _, rfl⟩) hsrc (by rw [ints_len]; omega)) ⟨[], rfl, rfl⟩ rfl ?_
  intro r s ho hd
  have ho2 := own_cupR ho hst hd
  rcases ho2 with ⟨h1, h2, _, _⟩ | ⟨b2, cap, h2, rfl, e, h4⟩
  · exfalso
    rw [ints_len] at h2; omega
  · have e2 : cup s (upd emp b [V.int IntKind.i64 vars, V.isl false 1 (clsV cls), V.msl bv 1 0 vals.length cap0]) = upd σ b2 (ints vals) := e
    simp only [e2, go_sem, stepW_iaddr_isl, stepW_iaddr_msl, stepW_idxs, stepK_iaddr_isl, stepK_iaddr_msl, stepK_idxs, ne_eq, ↓reduceIte]
    refine DRun.boxR (by simp [ev, look, V.cells, V.one]) ?_
    intro b3 hb3
    have hn := upd_none.1 hb3
    simp only [go_sem, stepW_iaddr_isl, stepW_iaddr_msl, stepW_idxs, stepK_iaddr_isl, stepK_iaddr_msl, stepK_idxs, ne_eq, ↓reduceIte]
    have hn2 : σ b3 = none := hn.2
    exact W_retR c124_ok rfl ⟨b3, b2, cap, hn2, h2, fun e => hn.1 e.symm, by have := h4.2; rw [ints_len] at this; exact this, rfl, by rw [ints_len]; rfl⟩
end Go.Proofs.Ytlojopaebdnacaa.Lg
