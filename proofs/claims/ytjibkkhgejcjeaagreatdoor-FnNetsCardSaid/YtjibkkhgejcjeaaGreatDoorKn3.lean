/- What is told of the functions that are reached, as far as it is asked here. -/
import Derived.Test.YtjibkkhgejcjeaaGreatDoorKn1
import Derived.KernelRfl
set_option linter.unusedSimpArgs false
set_option linter.unusedVariables false
namespace Go.Proofs.YtjibkkhgejcjeaaGreatDoor.Lg
open Go
section
structure Rt where
  via : Int
  pref : Int
  len : Int
  mark : Bool
  deriving DecidableEq, Inhabited
def rtC (r : Rt) : List V := [.int .i64 r.via, .int .i64 r.pref, .int .i64 r.len, .bool r.mark]
def rtsV (rs : List Rt) : List V := rs.map fun r => .agg (rtC r)
def rtAt (rs : List Rt) (k : Int) : Rt := rs.getD k.toNat default
end
section
/-- What a right network says of its parts. -/
structure NetR (n : Net) : Prop where
  r1 : 1 ≤ n.routers.length
  r4 : n.routers.length ≤ 4
  l6 : n.links.length ≤ 6
  i12 : n.imports.length ≤ 12
  f6 : n.filters.length ≤ 6
  x2 : n.externals.length ≤ 2
  cost : ∀ l ∈ n.links, 1 ≤ l.cost ∧ l.cost ≤ 100
  ends : ∀ l ∈ n.links, (0 ≤ l.a ∧ l.a < n.routers.length) ∧ (0 ≤ l.b ∧ l.b < n.routers.length)
  imp : ∀ x ∈ n.imports, 0 ≤ x.n ∧ x.n ≤ 1000
theorem netR_of {n : Net} (h : netB n = true) : NetR n := by
  simp only [netB, Bool.and_eq_true, decide_eq_true_eq, List.all_eq_true] at h
  obtain ⟨⟨⟨⟨⟨⟨⟨⟨⟨⟨⟨h1, h2⟩, h3⟩, h4⟩, h5⟩, h6⟩, h7⟩, h8⟩, h9⟩, h10⟩, h11⟩, h12⟩ := h
  have hlk : ∀ l ∈ n.links, (1 ≤ l.cost ∧ l.cost ≤ 100) ∧ (0 ≤ l.a ∧ l.a < n.routers.length) ∧ (0 ≤ l.b ∧ l.b < n.routers.length) := by
    intro l hl
    obtain ⟨i, hi, rfl⟩ := List.getElem_of_mem hl
    have := h7 i (List.mem_range.2 hi)
    simp only [linkAt, List.getD, List.getElem?_eq_getElem hi, Option.getD_some, routerB, inB, Bool.and_eq_true, decide_eq_true_eq] at this
    omega
  refine ⟨h1, h2, h3, h4, h5, h12, fun l hl => (hlk l hl).1, fun l hl => (hlk l hl).2, fun x hx => ?_⟩
  have := h8 x hx
  simp only [impOn, impB, inB, Bool.and_eq_true, decide_eq_true_eq] at this
  have := this.2.2
  split at this <;> omega
/-- A way that ends: after so many steps it is at no router. -/
def ends (rs : List Rt) : Nat → Int → Prop
  | 0, k => k < 0
  | m + 1, k => k < 0 ∨ ends rs m (rtAt rs k).via
theorem ends.succ {rs : List Rt} : ∀ {m : Nat} {k : Int}, ends rs m k → ends rs (m + 1) k := by
  intro m
  induction m with
  | zero => intro k h; exact .inl h
  | succ m ih => intro k h; exact h.imp_right ih
theorem ends.le {rs : List Rt} {m m' : Nat} {k : Int} (h : ends rs m k) (hm : m ≤ m') : ends rs m' k := by
  induction hm with
  | refl => exact h
  | step _ ih => exact ih.succ
end
section
def lksB (r : Int) (ls : List Link) : Bool := (List.range ls.length).all (linkAt r ls)
theorem getD_snoc_lt {α : Type} {xs : List α} {x d : α} {j : Nat} (h : j < xs.length) : (xs ++ [x]).getD j d = xs.getD j d := by simp [List.getD, List.getElem?_append_left h]
theorem getD_snoc_eq {α : Type} {xs : List α} {x d : α} : (xs ++ [x]).getD xs.length d = x := by simp [List.getD]
theorem linkP_any {ls : List Link} {a b : Int} (h : linkP ls a b < 0) : ls.any (joinB a b) = false := by
  have := first_any (p := joinB a b) (xs := ls)
  rw [← this]; exact decide_eq_false (by unfold linkP at h; omega)
theorem linkP_mem {ls : List Link} {a b : Int} {l : Link} (hl : l ∈ ls) (h : joinB a b l = true) : 0 ≤ linkP ls a b := by
  have h1 := first_any (p := joinB a b) (xs := ls)
  have h2 : ls.any (joinB a b) = true := List.any_eq_true.2 ⟨l, hl, h⟩
  rw [h2] at h1
  have := of_decide_eq_true h1
  unfold linkP; omega
theorem lksB_snoc {r : Int} {ls : List Link} {l : Link} (h : lksB r ls = true) (ha : routerB r l.a = true) (hb : routerB r l.b = true) (hab : l.a ≠ l.b) (hc : inB l.cost 1 100 = true) (hno : linkP ls l.a l.b < 0) : lksB r (ls ++ [l]) = true := by
  unfold lksB at *
  refine range_all fun j hj => ?_
  rw [List.length_append, List.length_singleton] at hj
  by_cases e : j = ls.length
  · subst e
    unfold linkAt
    rw [getD_snoc_eq, List.take_left, linkP_any hno, ha, hb, hc, decide_eq_false hab]; rfl
  · have hlt : j < ls.length := by omega
    have h1 := List.all_eq_true.1 h j (List.mem_range.2 hlt)
    unfold linkAt at *
    rw [getD_snoc_lt hlt, List.take_append_of_le_length (by omega)]; exact h1
def insK (xs : List Int) (n : Int) : Nat := (xs.takeWhile fun x => decide (x < n)).length
def insO (xs : List Int) (n : Int) : Bool := !(decide (insK xs n < xs.length) && decide (xs.getD (insK xs n) 0 = n))
def insP (xs : List Int) (n : Int) : List Int := if insO xs n then xs.take (insK xs n) ++ [n] ++ xs.drop (insK xs n) else xs
theorem rising_iff {r : Int} {xs : List Int} : risingB r xs = true ↔ (∀ x ∈ xs, 0 ≤ x ∧ x < r) ∧ ∀ i : Nat, i + 1 < xs.length → xs.getD i 0 < xs.getD (i + 1) 0 := by
  unfold risingB
  rw [List.all_eq_true]
  constructor
  · intro h
    have h' : ∀ j, j < xs.length → riseB r xs j = true := fun j hj => h j (List.mem_range.2 hj)
    refine ⟨fun x hx => ?_, fun i hi => ?_⟩
    · obtain ⟨j, hj, rfl⟩ := List.getElem_of_mem hx
      have := h' j hj
      simp only [riseB, routerB, Bool.and_eq_true, decide_eq_true_eq] at this
      have e : xs.getD j 0 = xs[j] := by simp [List.getD, hj]
      omega
    · have := h' (i + 1) hi
      simp only [riseB, Bool.and_eq_true, Bool.or_eq_true, decide_eq_true_eq, Nat.add_sub_cancel] at this
      rcases this.2 with e | e
      · omega
      · exact e
  · rintro ⟨h1, h2⟩ j hj
    have hj := List.mem_range.1 hj
    have := h1 _ (getD_mem 0 hj)
    simp only [riseB, routerB, Bool.and_eq_true, Bool.or_eq_true, decide_eq_true_eq]
    refine ⟨by omega, ?_⟩
    by_cases e : j = 0
    · exact .inl e
    · have := h2 (j - 1) (by omega)
      rw [show j - 1 + 1 = j by omega] at this
      exact .inr this
theorem insK_le (xs : List Int) (n : Int) : insK xs n ≤ xs.length := by
  unfold insK
  exact (List.takeWhile_prefix _).length_le
theorem insK_before {xs : List Int} {n : Int} : ∀ {i : Nat}, i < insK xs n → xs.getD i 0 < n := by
  unfold insK
  induction xs with
  | nil => intro i h; simp at h
  | cons x r ih =>
    intro i h
    by_cases hx : x < n
    · simp only [List.takeWhile_cons, decide_eq_true hx, if_true, List.length_cons] at h
      cases i with
      | zero => simpa using hx
      | succ i => rw [List.getD_cons_succ]; exact ih (by omega)
    · simp [List.takeWhile_cons, decide_eq_false hx] at h
theorem insK_stop {xs : List Int} {n : Int} (h : insK xs n < xs.length) : n ≤ xs.getD (insK xs n) 0 := by
  unfold insK at *
  induction xs with
  | nil => simp at h
  | cons x r ih =>
    by_cases hx : x < n
    · simp only [List.takeWhile_cons, decide_eq_true hx, if_true, List.length_cons, List.getD_cons_succ] at h ⊢
      exact ih (by omega)
    · simp only [List.takeWhile_cons, decide_eq_false hx] at h ⊢
      simp; omega
theorem ins_rising {r : Int} {xs : List Int} {n : Int} (h : risingB r xs = true) (hn : 0 ≤ n ∧ n < r) : risingB r (insP xs n) = true := by
  unfold insP
  cases ho : insO xs n with
  | false => exact h
  | true =>
    simp only [if_true]
    have hk := insK_le xs n
    have hst := insK_stop (xs := xs) (n := n)
    have hbe := fun i => insK_before (xs := xs) (n := n) (i := i)
    have hne : insK xs n < xs.length → xs.getD (insK xs n) 0 ≠ n := by
      intro hlt he
      simp only [insO, decide_eq_true hlt, decide_eq_true he] at ho; simp at ho
    generalize insK xs n = k at *
    rw [rising_iff] at h ⊢
    obtain ⟨h1, h2⟩ := h
    refine ⟨fun x hx => ?_, fun i hi => ?_⟩
    · rw [List.mem_append, List.mem_append, List.mem_singleton] at hx
      rcases hx with (hx | rfl) | hx
      · exact h1 x (List.mem_of_mem_take hx)
      · exact hn
      · exact h1 x (List.mem_of_mem_drop hx)
    · have hlen : (xs.take k ++ [n] ++ xs.drop k).length = xs.length + 1 := by simp; omega
      rw [hlen] at hi
      have hget : ∀ j, j < xs.length + 1 → (xs.take k ++ [n] ++ xs.drop k).getD j 0 = if j < k then xs.getD j 0 else if j = k then n else xs.getD (j - 1) 0 := by
        intro j hj
        have hkl : (xs.take k).length = k := by simp; omega
        by_cases c1 : j < k
        · rw [if_pos c1]
          simp only [List.getD, List.append_assoc]
          rw [List.getElem?_append_left (by omega), List.getElem?_take_of_lt c1]
        · rw [if_neg c1]
          by_cases c2 : j = k
          · rw [if_pos c2]
            simp only [List.getD, List.append_assoc]
            rw [List.getElem?_append_right (by omega), hkl, c2]; simp
          · rw [if_neg c2]
            simp only [List.getD]
            rw [List.getElem?_append_right (by simp; omega)]
            simp only [List.length_append, hkl, List.length_singleton, List.getElem?_drop]
            rw [show k + (j - (k + 1)) = j - 1 by omega]
      rw [hget i (by omega), hget (i + 1) (by omega)]
      by_cases c1 : i + 1 < k
      · rw [if_pos (by omega), if_pos c1]; exact h2 i (by omega)
      · by_cases c2 : i + 1 = k
        · rw [if_pos (by omega), if_neg c1, if_pos c2]; exact hbe i (by omega)
        · by_cases c3 : i = k
          · rw [if_neg (by omega), if_pos c3, if_neg c1, if_neg c2, c3, Nat.add_sub_cancel]
            have := hst (by omega); have := hne (by omega); omega
          · rw [if_neg (by omega), if_neg c3, if_neg c1, if_neg c2, Nat.add_sub_cancel]
            have := h2 (i - 1) (by omega)
            rwa [show i - 1 + 1 = i by omega] at this
theorem ins_len (xs : List Int) (n : Int) : (insP xs n).length ≤ xs.length + 1 := by
  unfold insP
  have := insK_le xs n
  split
  · simp; omega
  · omega
theorem joinB_self (l : Link) : joinB l.a l.b l = true := by simp [joinB]
theorem joinB_swap (l : Link) : joinB l.b l.a l = true := by simp [joinB]
end
end Go.Proofs.YtjibkkhgejcjeaaGreatDoor.Lg
/- What is told of the functions that are reached, as far as it is asked here. -/
set_option linter.unusedSimpArgs false
set_option linter.unusedVariables false
namespace Go.Proofs.YtjibkkhgejcjeaaGreatDoor.Lg
open Go
section
attribute [local irreducible] SRun DS DRun
variable {Γ : St} {σ σ0 : St}
theorem rtsV_len (rs : List Rt) : (rtsV rs).length = rs.length := by simp [rtsV]
section
variable {P : Program} {f : FuncId} {n : Nat} {Q : V → St → Prop} {k : List It} {T : Ts} {g : GI} {l : List GI}
theorem stepW_iaddr_rts {ex : Bool} {xs : List Rt} {kk : IntKind} {m : Int} (h0 : 0 ≤ m) (h1 : m < xs.length) : stepW P Γ f n Q (.iaddr 4 (.c (.isl ex 4 (rtsV xs))) (.c (.int kk m))) g l k T σ = W P Γ f n Q (.ops l :: k) (putT T g.d (.iptr (rtC (xs.getD m.toNat default)))) σ := stepW_iaddr_map h0 h1
theorem stepK_iaddr_rts {K : V → St → Prop} {ex : Bool} {xs : List Rt} {kk : IntKind} {m : Int} (h0 : 0 ≤ m) (h1 : m < xs.length) : stepK (.iaddr 4 (.c (.isl ex 4 (rtsV xs))) (.c (.int kk m))) σ K = K (.iptr (rtC (xs.getD m.toNat default))) σ := stepK_iaddr_map h0 h1
end
attribute [go_sem] stepW_iaddr_rts stepK_iaddr_rts rtsV_len
/-- What is owned beside what is not needed any more. -/
theorem ownL_less {σ1 s : St} {es : Nat} {xs : List V} {q : V} (h : OwnL σ1 es xs q s) (hle : ∀ b c, σ b = some c → σ1 b = some c) : ∃ s2, (∀ b c, s2 b = some c → s b = some c) ∧ OwnL σ es xs q s2 := by
  rcases h.1 with ⟨hc, hl, rfl, es', rfl⟩ | ⟨b2, cap, hb, rfl, rfl, h4⟩
  · exact ⟨σ, hle, .inl ⟨hc, hl, rfl, es', rfl⟩, h.2⟩
  · have hb2 : σ b2 = none := by
      cases e : σ b2 with
      | none => rfl
      | some c => rw [hle _ _ e] at hb; cases hb
    refine ⟨upd σ b2 (flat xs), fun b c hbc => ?_, .inr ⟨b2, cap, hb2, rfl, rfl, h4⟩, h.2⟩
    by_cases e : b = b2
    · subst e; rw [upd_same] at hbc ⊢; exact hbc
    · rw [upd_ne _ _ e] at hbc ⊢; exact hle _ _ hbc
end
section
attribute [local irreducible] SRun DS DRun
variable {Γ : St} {σ σ0 : St}
theorem ints1_ok (x : Int) : ∀ y ∈ [V.int .i64 x], y.cells.length = 1 ∧ ∀ c ∈ y.cells, c.one = true := ints_ok [x]
end
section
attribute [local irreducible] SRun DS DRun
variable {Γ : St} {σ σ0 : St}
/-- States, as a list of lists of routes. -/
def staV (ss : List (List Rt)) : List V := ss.map fun rs => .isl false 4 (rtsV rs)
theorem staV_len (ss : List (List Rt)) : (staV ss).length = ss.length := by simp [staV]
section
variable {P : Program} {f : FuncId} {n : Nat} {Q : V → St → Prop} {k : List It} {T : Ts} {g : GI} {l : List GI}
theorem stepW_iaddr_sta {ex : Bool} {xs : List (List Rt)} {kk : IntKind} {m : Int} (h0 : 0 ≤ m) (h1 : m < xs.length) : stepW P Γ f n Q (.iaddr 1 (.c (.isl ex 1 (staV xs))) (.c (.int kk m))) g l k T σ = W P Γ f n Q (.ops l :: k) (putT T g.d (.iptr [.isl false 4 (rtsV (xs.getD m.toNat []))])) σ := stepW_iaddr_map (F := fun rs : List Rt => .isl false 4 (rtsV rs)) h0 h1
theorem stepK_iaddr_sta {K : V → St → Prop} {ex : Bool} {xs : List (List Rt)} {kk : IntKind} {m : Int} (h0 : 0 ≤ m) (h1 : m < xs.length) : stepK (.iaddr 1 (.c (.isl ex 1 (staV xs))) (.c (.int kk m))) σ K = K (.iptr [.isl false 4 (rtsV (xs.getD m.toNat []))]) σ := stepK_iaddr_map (F := fun rs : List Rt => .isl false 4 (rtsV rs)) h0 h1
end
attribute [go_sem] stepW_iaddr_sta stepK_iaddr_sta staV_len
end
section
attribute [local irreducible] SRun DS DRun
variable {Γ : St} {σ σ0 : St}
section
variable {P : Program} {f : FuncId} {n : Nat} {Q : V → St → Prop} {k : List It} {T : Ts}
/-- One block is written, the rest is read, and new blocks may come. -/
theorem DRun.mixR1 {b : Nat} {c : List V} {t : DT} {segs : List DT} (hb : σ b = some c) (R : Ts → St → Prop) (hr : rdOK t = true) (h : DSW P Γ (del σ b) t T (upd emp b c) R) (hk : ∀ T s, R T s → WD P Γ f n Q k segs T (cup s (del σ b))) : DRun P Γ f n Q (t :: segs) k T σ := by
  with_unfolding_all exact ⟨upd emp b c, del σ b, (fun m => by
    by_cases e : m = b
    · subst e; exact .inr (del_same _ _)
    · exact .inl (by rw [upd_ne _ _ e]; rfl)), (by
    funext m
    by_cases e : m = b
    · subst e; simp [cup, upd, hb]
    · simp [cup, upd, emp, del, e]), DS.mono (fun T s hR => (hk T s hR).sound) (DS.of hr h)⟩
theorem cup_del2 {b b2 : Nat} {c z : List V} (hne : b2 ≠ b) : cup (upd (upd emp b c) b2 z) (del σ b) = upd (upd σ b c) b2 z := by
  funext m
  by_cases e2 : m = b2
  · subst e2; simp [cup, upd]
  · by_cases e : m = b
    · subst e; simp [cup, upd, e2]
    · simp [cup, upd, emp, del, e, e2]
end
theorem l06Insert_ok {ex : Bool} {xs : List Int} {x : Int} (hl : xs.length ≤ 1000000000) : Ret Tryz.prog Γ 86 [.isl ex 1 (ints xs), .int .i64 x] σ (.tup [.isl false 1 (ints (insP xs x)), .bool (insO xs x)]) σ := by
  have hkl := insK_le xs x
  refine ret_of c86_ok rfl ?_
  simp (disch := omega) only [c86, go_sem]
  refine W_loopC (α := Nat) (fun i => i ≤ insK xs x) (fun i => [(0, .isl ex 1 (ints xs)), (1, .int .i64 x), (6, .int .i64 (i : Nat))]) (fun _ => σ) (fun i => insK xs x - i) 0 (by omega) (by simp (disch := omega) only [subT, Int.natCast_add, Int.cast_ofNat_Int, go_sem] <;> (repeat' apply And.intro) <;> first | rfl | (congr 1; omega) | assumption) rfl ?_
  intro i hi ih
  simp (disch := omega) only [go_sem]
  have step : ∀ (b : Bool), True := fun _ => trivial
  clear step
  by_cases h1 : i < insK xs x
  · have hb := insK_before h1
    have d1 : decide ((i : Int) < xs.length) = true := decide_eq_true (by omega)
    simp (disch := omega) only [d1, go_sem]
    have d2 : decide (xs.getD i 0 < x) = true := decide_eq_true hb
    simp (disch := omega) only [d2, go_sem]
    exact ih (i + 1) _ _ (by omega) (by omega) (by simp (disch := omega) only [subT, Int.natCast_add, Int.cast_ofNat_Int, go_sem] <;> (repeat' apply And.intro) <;> first | rfl | (congr 1; omega) | assumption) rfl
  · have hik : i = insK xs x := by omega
    subst hik
    clear ih
    have hst := insK_stop (xs := xs) (n := x)
    have ho : insO xs x = !(decide (insK xs x < xs.length) && decide (xs.getD (insK xs x) 0 = x)) := rfl
    have hp : insP xs x = if insO xs x then xs.take (insK xs x) ++ [x] ++ xs.drop (insK xs x) else xs := rfl
    generalize insK xs x = i at *
    by_cases c1 : i < xs.length ∧ xs.getD i 0 = x
    · have d1 : decide ((i : Int) < xs.length) = true := decide_eq_true (by omega)
      have d2 : decide (xs.getD i 0 < x) = false := decide_eq_false (by omega)
      have d3 : decide (xs.getD i 0 = x) = true := decide_eq_true c1.2
      rw [decide_eq_true c1.1, d3] at ho
      rw [ho] at hp
      have hp2 : insP xs x = xs := hp
      rw [hp2, ho]
      simp (disch := omega) only [d1, d2, d3, go_sem]
      exact W_retC c86_ok (r := .tup [.isl ex 1 (ints xs), .bool false]) rfl ⟨fun _ _ h => h, frz_tup (by exact ⟨.isl _ _ _, .refl _, trivial⟩)⟩ ⟨rfl, rfl⟩
    · have ho2 : insO xs x = true := by
        rw [ho]
        by_cases c2 : i < xs.length
        · rw [decide_eq_false (fun h => c1 ⟨c2, h⟩)]; simp
        · rw [decide_eq_false c2]; rfl
      rw [ho2, if_pos rfl] at hp
      rw [hp, ho2]
      by_cases c2 : i < xs.length
      case' pos =>
        have d1 : decide ((i : Int) < xs.length) = true := decide_eq_true (by omega)
        have d2 : decide (xs.getD i 0 < x) = false := decide_eq_false (by have := hst c2; omega)
        have d3 : decide (xs.getD i 0 = x) = false := decide_eq_false (fun h => c1 ⟨c2, h⟩)
        simp (disch := omega) only [d1, d2, d3, go_sem]
      case' neg =>
        have d1 : decide ((i : Int) < xs.length) = false := decide_eq_false (by omega)
        simp (disch := omega) only [d1, go_sem]
      all_goals
        rw [W_draw]
        have t1 : List.take ((i : Int) - 0).toNat (ints xs) = ints (xs.take i) := by rw [show ((i : Int) - 0).toNat = i by omega]; simp [ints, List.map_take]
        have t2 : List.take ((xs.length : Int) - i).toNat (List.drop i (ints xs)) = ints (xs.drop i) := by rw [List.take_of_length_le (by rw [List.length_drop, ints_len]; omega)]; simp [ints, List.map_drop]
        refine DRun.start (DRun.mixN rfl ?_)
        simp (disch := omega) only [go_sem]
        refine DS.wrQ (WrF.appL (OwnL.nil (σ0 := emp) 1 1) (congrArg (V.isl _ 1) t1) (ints_ok (xs.take i)) (by simp only [ints_len, List.length_nil, List.length_take]; omega)) rfl ?_
        intro r1 s1' hr1 _
        have hr1' := OwnL.of_app (OwnL.nil (σ0 := emp) 1 1) (ints_ok (xs.take i)) hr1
        rw [List.nil_append] at hr1'
        simp (disch := omega) only [go_sem]
        refine DS.wrQ (WrF.appL hr1' rfl (ints1_ok x) (by simp only [ints_len, List.length_take, List.length_singleton]; omega)) rfl ?_
        intro r2 s2' hr2 hdj
        have hr2' := OwnL.of_app hr1' (ints1_ok x) hr2
        rw [ints_app] at hr2'
        have hr3 := ownL_join hr2' hdj
        simp (disch := omega) only [go_sem]
        refine DRun.appL hr3 (congrArg (V.isl _ 1) t2) (ints_ok (xs.drop i)) (by simp only [ints_len, List.length_append, List.length_take, List.length_singleton, List.length_drop]; omega) ?_
        intro r3 s3 hr4
        have he : ints (xs.take i ++ [x]) ++ ints (xs.drop i) = ints (xs.take i ++ [x] ++ xs.drop i) := by simp [ints]
        rw [he] at hr4
        simp (disch := omega) only [go_sem]
        exact W_retC c86_ok (r := .tup [r3, .bool true]) (r' := .tup [.isl false 1 (ints (xs.take i ++ [x] ++ xs.drop i)), .bool true]) rfl ⟨hr4.le, frz_tup (by exact ⟨hr4.conv.2, .refl _, trivial⟩)⟩ ⟨rfl, rfl⟩
end
section
attribute [local irreducible] SRun DS DRun
variable {Γ : St} {σ σ0 : St}
def names4 (k : Nat) : List (List UInt8) := [[97], [98], [99], [100]].take k
theorem names4_len {k : Nat} (h : k ≤ 4) : (names4 k).length = k := by simp [names4]; omega
theorem names4_ok {k : Nat} (h : k ≤ 4) : (List.range (names4 k).length).all (nameAt (names4 k)) = true := by
  rw [names4_len h]
  match k, h with
  | 0, _ => rfl
  | 1, _ => rfl
  | 2, _ => rfl
  | 3, _ => rfl
  | 4, _ => rfl
theorem link1_ok (l : Link) : ∀ y ∈ [V.agg (linkC l)], y.cells.length = 3 ∧ ∀ c ∈ y.cells, c.one = true := by
  intro y hy; rw [List.mem_singleton.1 hy]; simp [V.cells, linkC, V.one]
theorem links_app (ls : List Link) (l : Link) : linksV ls ++ [.agg (linkC l)] = linksV (ls ++ [l]) := by simp [linksV]
theorem imp1_ok (x : Imp) : ∀ y ∈ [V.agg (impC x)], y.cells.length = 5 ∧ ∀ c ∈ y.cells, c.one = true := by
  intro y hy; rw [List.mem_singleton.1 hy]; simp [V.cells, impC, V.one]
theorem imps_app (ls : List Imp) (l : Imp) : impsV ls ++ [.agg (impC l)] = impsV (ls ++ [l]) := by simp [impsV]
theorem filn1_ok (x : Fil) : ∀ y ∈ [V.agg (filC x)], y.cells.length = 4 ∧ ∀ c ∈ y.cells, c.one = true := by
  intro y hy; rw [List.mem_singleton.1 hy]; simp [V.cells, filC, V.one]
theorem filsn_app (fs : List Fil) (x : Fil) : filsV fs ++ [.agg (filC x)] = filsV (fs ++ [x]) := by simp [filsV]
def Z6 : List V := [.isl true 0 [], .isl true 0 [], .isl true 0 [], .isl true 0 [], .isl true 0 [], .isl true 0 []]
theorem le_boxes {M : St} {b3 b10 b11 : Nat} {F F' y z : List V} (h10 : M b10 = none) (h11 : M b11 = none) (h3 : M b3 = some F) : ∀ d x, upd M b3 F' d = some x → upd (upd (upd M b10 y) b11 z) b3 F' d = some x := by
  intro d x h
  by_cases e : d = b3
  · subst e; rw [upd_same] at h ⊢; exact h
  · rw [upd_ne _ _ e] at h ⊢
    have e10 : d ≠ b10 := fun e => by subst e; rw [h10] at h; cases h
    have e11 : d ≠ b11 := fun e => by subst e; rw [h11] at h; cases h
    rw [upd_ne _ _ e11, upd_ne _ _ e10]; exact h
set_option maxHeartbeats 4000000 in
theorem net_ok {b : Nat} {ex : Bool} {code : List UInt8} {s : Int} (hb : σ b = some (srcC ex code 0 s)) (hs : 0 ≤ s ∧ s < 2147483648) :
    ACalls Tryz.prog Γ 44 [.ptr b 0] σ fun r σ' => ∃ n a' s', netB n = true ∧ NetLen n ∧ n.origins.length ≤ 4 ∧ 0 ≤ a' ∧ a' ≤ 1000 ∧ 0 ≤ s' ∧ s' < 2147483648 ∧ r = netV n ∧ σ' = upd σ b (srcC ex code a' s') := by
  refine acalls_W c44_ok rfl ?_
  simp (disch := omega) only [c44, go_sem]
  refine SRun.allocR ?_
  intro b2 hb2
  have e2 : b2 ≠ b := fun e => by subst e; rw [hb] at hb2; cases hb2
  have e2' : b ≠ b2 := e2.symm
  have hbz : ∀ z, upd σ b2 z b = some (srcC ex code 0 s) := fun z => by rw [upd_ne _ _ e2']; exact hb
  simp (disch := omega) only [go_sem]
  refine SRun.callQ (next_ok (hbz _) (by omega) hs) ⟨[], rfl, rfl⟩ rfl ?_
  rintro r σ1 ⟨v, a1, s1, j1, j2, j3, j4, j5, j6, j7, rfl, rfl⟩
  have hv := j3 (by omega)
  obtain ⟨v, rfl⟩ : ∃ v' : Nat, v = v' := ⟨v.toNat, by omega⟩
  have hR : List.take (1 + (v : Int) - 0).toNat [V.str [97], .str [98], .str [99], .str [100]] = strsV (names4 (v + 1)) := by
    rw [show (1 + (v : Int) - 0).toNat = v + 1 by omega]; simp [names4, strsV, List.map_take]
  have hkl : (names4 (v + 1)).length = v + 1 := names4_len (by omega)
  simp (disch := omega) only [hR, go_sem]
  generalize hRV : V.isl (decide (1 + (v : Int) = 4)) 1 (strsV (names4 (v + 1))) = R
  have hR1 : R.one = true := by subst hRV; rfl
  have hRc : R.cells = [R] := by subst hRV; rfl
  have hRlen : ∀ {P : Program} {f : FuncId} {n : Nat} {Q : V → St → Prop} {k : List It} {T : Ts} {g : GI} {l : List GI} {σ : St}, stepW P Γ f n Q (.len (.c R)) g l k T σ = W P Γ f n Q (.ops l :: k) (putT T g.d (.int .i64 ((v : Int) + 1))) σ := by
    intros; subst hRV; rw [stepW_len_isl, strsV_len, hkl]; rfl
  refine SRun.allocR ?_
  intro b3 hb3
  have n3 := upd_none.1 hb3
  have n3' := upd_none.1 n3.2
  have e3 : b3 ≠ b := n3.1
  have e3' : b ≠ b3 := e3.symm
  have e32 : b3 ≠ b2 := n3'.1
  have e23 : b2 ≠ b3 := e32.symm
  have hZ : [V.isl true 0 [], .isl true 0 [], .isl true 0 [], .isl true 0 [], .isl true 0 [], .isl true 0 []] = Z6 := rfl
  simp (disch := omega) only [hR1, hRc, go_sem]
  rw [hZ]
  generalize hs0 : upd σ b2 Z6 = s0
  have hσ0 : ∀ d x, σ d = some x → s0 d = some x := by subst hs0; exact le_upd hb2
  have g2 : s0 b2 = some Z6 := by subst hs0; exact upd_same _ _ _
  have h03 : s0 b3 = none := by subst hs0; exact n3.2
  simp (disch := omega) only [hRlen, go_sem]
  have Mb : ∀ a s F, upd (upd s0 b (srcC ex code a s)) b3 F b = some (srcC ex code a s) := fun a s F => by rw [upd_ne _ _ e3', upd_same]
  have M3 : ∀ a s F, upd (upd s0 b (srcC ex code a s)) b3 F b3 = some F := fun a s F => upd_same _ _ _
  have M2 : ∀ a s F, upd (upd s0 b (srcC ex code a s)) b3 F b2 = some Z6 := fun a s F => by rw [upd_ne _ _ e23, upd_ne _ _ e2]; exact g2
  have Mu : ∀ a s a' s' F, upd (upd (upd s0 b (srcC ex code a s)) b3 F) b (srcC ex code a' s') = upd (upd s0 b (srcC ex code a' s')) b3 F := fun a s a' s' F => by rw [upd_comm _ e3, upd_upd]
  refine W_loopC (α := Nat × List Link × Int × Int × V × St) (fun p => p.1 ≤ 7 ∧ p.2.1.length ≤ 6 ∧ lksB ((v : Int) + 1) p.2.1 = true ∧ (0 ≤ p.2.2.1 ∧ p.2.2.1 ≤ 3 + 9 * p.1) ∧ (0 ≤ p.2.2.2.1 ∧ p.2.2.2.1 < 2147483648) ∧ OwnL (upd (upd s0 b (srcC ex code p.2.2.1 p.2.2.2.1)) b3 [R, p.2.2.2.2.1, .isl true 0 [], .isl true 0 [], .isl true 0 [], .isl true 0 []]) 3 (linksV p.2.1) p.2.2.2.2.1 p.2.2.2.2.2)
    (fun p => [(0, .ptr b 0), (2, .ptr b2 0), (3, .ptr b3 0), (4, .int .i64 ((v : Int) + 1)), (5, .int .i64 (p.1 : Nat))]) (fun p => p.2.2.2.2.2) (fun p => 7 - p.1) (0, [], a1, s1, .isl true 0 [], _) ⟨by simp, by simp, rfl, by simp only; omega, ⟨j6, j7⟩, OwnL.nil _ _⟩ (by simp (disch := omega) only [subT, Int.natCast_add, Int.cast_ofNat_Int, go_sem] <;> (repeat' apply And.intro) <;> first | rfl | (congr 1; omega) | assumption) rfl ?_
  clear hb hbz j1 j2 j3 j4 j5 j6 j7 hs
  rintro ⟨i, ls, a, s, q, σ1⟩ ⟨hi, hll, hlk, ha, hs, ho⟩ ih
  dsimp only at hi hll hlk ha hs ho
  have gb := ho.get (Mb _ _ _)
  have g3 := ho.get (M3 _ _ _)
  have gq1 := ho.one
  by_cases c1 : i < 7 ∧ v ≥ 1
  · have d1 : decide ((i : Int) < 7) = true := decide_eq_true (by omega)
    have d2 : decide ((v : Int) + 1 > 1) = true := decide_eq_true (by omega)
    simp (disch := omega) only [d1, d2, go_sem]
    refine SRun.callQ (next_ok gb (by omega) hs) ⟨[], rfl, rfl⟩ rfl ?_
    rintro r σ2 ⟨x, a2, s2, x1, _, x3, x4, x5, x6, x7, rfl, rfl⟩
    have hx := x3 (by omega)
    simp (disch := omega) only [go_sem]
    refine SRun.callQ (next_ok (upd_same _ _ _) (by omega) ⟨x6, x7⟩) ⟨[], rfl, rfl⟩ rfl ?_
    rintro r σ2 ⟨y, a3, s3, y1, _, y3, y4, y5, y6, y7, rfl, rfl⟩
    have hy := y3 (by omega)
    rw [upd_upd]
    have ho2 := ho.upd (c' := srcC ex code a3 s3) (Mb _ _ _)
    rw [Mu] at ho2
    have gb2 := ho2.get (Mb _ _ _)
    have g32 := ho2.get (M3 _ _ _)
    have hg32 : upd σ1 b (srcC ex code a3 s3) b3 = some [R, q, .isl true 0 [], .isl true 0 [], .isl true 0 [], .isl true 0 []] := g32
    generalize upd σ1 b (srcC ex code a3 s3) = σ2 at *
    have hno : ∀ T', subT [(0, V.ptr b 0), (2, V.ptr b2 0), (3, V.ptr b3 0), (4, V.int .i64 ((v : Int) + 1)), (5, V.int .i64 ((i : Int) + 1))] T' → _ := fun T' hT' => ih (i + 1, ls, a3, s3, q, σ2) T' _ ⟨by simp only; omega, hll, hlk, by simp only; omega, ⟨y6, y7⟩, ho2⟩ (by simp only; omega) hT' rfl
    simp (disch := omega) only [go_sem]
    by_cases c2 : x = y
    · have d3 : (decide ¬ x = y) = false := by simp [c2]
      simp (disch := omega) only [d3, go_sem]
      exact hno _ (by simp (disch := omega) only [subT, Int.natCast_add, Int.cast_ofNat_Int, go_sem] <;> (repeat' apply And.intro) <;> first | rfl | (congr 1; omega) | assumption)
    have d3 : (decide ¬ x = y) = true := by simp [c2]
    simp (disch := omega) only [d3, hg32, go_sem]
    refine SRun.callR (Ret.lendL (l06Link_ok (σ := emp) (ex := false) (ls := ls) (x := x) (y := y) (by omega)) (by exact ⟨ho2.frz (fun _ _ => rfl) (fun _ _ => rfl), .refl _, .refl _, trivial⟩) (Plain.int _ _)) ⟨[], rfl, rfl⟩ rfl ?_
    by_cases c3 : linkP ls x y < 0
    case' neg =>
      have d4 : decide (linkP ls x y < 0) = false := decide_eq_false c3
      simp (disch := omega) only [d4, go_sem]
      exact hno _ (by simp (disch := omega) only [subT, Int.natCast_add, Int.cast_ofNat_Int, go_sem] <;> (repeat' apply And.intro) <;> first | rfl | (congr 1; omega) | assumption)
    have d4 : decide (linkP ls x y < 0) = true := decide_eq_true c3
    simp (disch := omega) only [d4, hg32, stepW_len_own ho2, linksV_len, go_sem]
    by_cases c4 : ls.length < 6
    case' neg =>
      have d5 : decide ((ls.length : Int) < 6) = false := decide_eq_false (by omega)
      simp (disch := omega) only [d5, go_sem]
      exact hno _ (by simp (disch := omega) only [subT, Int.natCast_add, Int.cast_ofNat_Int, go_sem] <;> (repeat' apply And.intro) <;> first | rfl | (congr 1; omega) | assumption)
    have d5 : decide ((ls.length : Int) < 6) = true := decide_eq_true (by omega)
    clear hno
    simp (disch := omega) only [d5, go_sem]
    rw [W_draw]
    have g3d : del σ2 b b3 = some [R, q, .isl true 0 [], .isl true 0 [], .isl true 0 [], .isl true 0 []] := by rw [del_ne _ e3]; exact hg32
    refine DRun.start (DRun.mix1 gb2 rfl ?_)
    simp (disch := omega) only [g3d, go_sem]
    refine DS.callQ (next_ok (upd_same emp b (srcC ex code a3 s3)) (by omega) ⟨y6, y7⟩) ⟨[], rfl, rfl⟩ rfl ?_
    rintro r sx ⟨w, a4, s4, w1, _, w3, w4, w5, w6, w7, rfl, rfl⟩ _
    have hw := w3 (by omega)
    rw [upd_upd]
    simp (disch := omega) only [go_sem]
    refine ⟨_, rfl, ?_⟩
    have ho3 := ho2.upd (c' := srcC ex code a4 s4) (Mb _ _ _)
    rw [Mu] at ho3
    refine DRun.appL ho3 rfl (link1_ok ⟨x, y, 1 + w⟩) (by rw [linksV_len]; simp only [List.length_singleton]; omega) ?_
    intro q' σ6 ho4
    have hap : linksV ls ++ [V.agg [.int .i64 x, .int .i64 y, .int .i64 (1 + w)]] = linksV (ls ++ [⟨x, y, 1 + w⟩]) := links_app ls ⟨x, y, 1 + w⟩
    rw [hap] at ho4
    have g34 := ho4.get (M3 _ _ _)
    simp (disch := omega) only [g34, ho4.one, ho4.cells, go_sem]
    have ho5 := ho4.upd (c' := [R, q', .isl true 0 [], .isl true 0 [], .isl true 0 [], .isl true 0 []]) (M3 _ _ _)
    rw [upd_upd] at ho5
    exact ih (i + 1, ls ++ [⟨x, y, 1 + w⟩], a4, s4, q', upd σ6 b3 [R, q', .isl true 0 [], .isl true 0 [], .isl true 0 [], .isl true 0 []]) _ _ ⟨by simp only; omega, by simp only [List.length_append, List.length_singleton]; omega, lksB_snoc hlk (by simp [routerB]; omega) (by simp [routerB]; omega) c2 (by simp [inB]; omega) c3, by simp only; omega, ⟨w6, w7⟩, ho5⟩ (by simp only; omega) (by simp (disch := omega) only [subT, Int.natCast_add, Int.cast_ofNat_Int, go_sem] <;> (repeat' apply And.intro) <;> first | rfl | (congr 1; omega) | assumption) rfl
  · clear ih
    have hin := ownL_frzIn (cs' := [R, .isl false 3 (linksV ls), .isl true 1 (ints []), .isl true 1 (ints []), .isl true 5 [], .isl true 4 []]) ho (by simp only [List.mem_cons, List.not_mem_nil, or_false, forall_eq_or_imp, forall_eq]; exact ⟨hR1, rfl, rfl, rfl, rfl, rfl⟩) (fun hf => by exact ⟨.refl _, hf, .isl0 _ _ _ _ (fun _ => rfl), .isl0 _ _ _ _ (fun _ => rfl), .isl0 _ _ _ _ (fun _ => rfl), .isl0 _ _ _ _ (fun _ => rfl), trivial⟩)
    by_cases c5 : i < 7
    case' pos =>
      have d1 : decide ((i : Int) < 7) = true := decide_eq_true (by omega)
      have d2 : decide ((v : Int) + 1 > 1) = false := decide_eq_false (by omega)
      simp (disch := omega) only [d1, d2, go_sem]
      clear d1 d2 c1 c5
    case' neg =>
      have d1 : decide ((i : Int) < 7) = false := decide_eq_false (by omega)
      simp (disch := omega) only [d1, go_sem]
      clear d1 c1 c5
    all_goals
      rw [W_draw]
      refine SRun.freezeIn (T' := [(0, V.ptr b 0), (2, V.ptr b2 0), (3, V.ptr b3 0), (4, V.int .i64 ((v : Int) + 1))]) hin (frzT_of_sub (by simp (disch := omega) only [subT, Int.natCast_add, Int.cast_ofNat_Int, go_sem] <;> (repeat' apply And.intro) <;> first | rfl | (congr 1; omega) | assumption)) ?_
      clear hin ho g3 gb gq1 σ1
      have g3d : ∀ a s F, del (upd (upd s0 b (srcC ex code a s)) b3 F) b b3 = some F := fun a s F => by rw [del_ne _ e3]; exact upd_same _ _ _
      generalize hLV : V.isl false 3 (linksV ls) = LV
      have hL1 : LV.one = true := by subst hLV; rfl
      refine DRun.start (DRun.mix1 (Mb _ _ _) rfl ?_)
      simp (disch := omega) only [g3d, go_sem]
      refine DS.callQ (next_ok (upd_same emp b (srcC ex code a s)) (by omega) hs) ⟨[], rfl, rfl⟩ rfl ?_
      rintro r sx ⟨x, a4, s4, w1, w2, w3, w4, w5, w6, w7, rfl, rfl⟩ _
      have hx : 0 ≤ x ∧ x < v + 1 := ⟨w1, w3 (by omega)⟩
      rw [upd_upd]
      simp (disch := omega) only [go_sem]
      refine ⟨_, rfl, ?_⟩
      rw [Mu]
      refine DRun.callQ (l06Insert_ok (ex := true) (xs := []) (x := x) (by simp)) ⟨[], rfl, rfl⟩ ?_
      rintro r sx ⟨rfl, hsx⟩
      obtain rfl := hsx.symm
      have hio : risingB ((v : Int) + 1) (insP [] x) = true := ins_rising (xs := []) rfl hx
      have hil := ins_len [] x
      generalize insP [] x = os at *
      have hosl : os.length ≤ 1 := by simpa using hil
      simp (disch := omega) only [go_sem]
      refine DRun.mix1 (M3 _ _ _) rfl ?_
      simp (disch := omega) only [go_sem]
      refine DS.wrQ (WrF.store rfl (upd_same emp b3 _) rfl (by simp [ev, look, V.cells, V.one]) (by simp)) rfl ?_
      rintro _ sx ⟨_, rfl⟩ _
      rw [upd_upd]
      simp (disch := omega) only [V.cells, go_sem]
      refine ⟨_, rfl, ?_⟩
      clear g3d
      refine SRun.callQ (next_ok (Mb _ _ _) (by omega) ⟨w6, w7⟩) ⟨[], rfl, rfl⟩ rfl ?_
      rintro r sx ⟨y, a5, s5, y1, y2, y3, y4, y5, y6, y7, rfl, rfl⟩
      have hy := y3 (by omega)
      obtain ⟨y, rfl⟩ : ∃ v' : Nat, y = v' := ⟨y.toNat, by omega⟩
      rw [Mu]
      have ha5 : 0 ≤ a5 ∧ a5 ≤ 80 := by omega
      simp (disch := omega) only [go_sem]
      refine W_loopC (α := Nat × List Int × Bool × Int × Int) (fun p => p.1 ≤ y ∧ p.2.1.length + p.1 ≤ 2 ∧ risingB ((v : Int) + 1) p.2.1 = true ∧ (0 ≤ p.2.2.2.1 ∧ p.2.2.2.1 ≤ 80 + 3 * ((y : Int) - p.1)) ∧ (0 ≤ p.2.2.2.2 ∧ p.2.2.2.2 < 2147483648))
        (fun p => [(0, .ptr b 0), (2, .ptr b2 0), (3, .ptr b3 0), (4, .int .i64 ((v : Int) + 1)), (8, .int .i64 (p.1 : Nat))]) (fun p => upd (upd s0 b (srcC ex code p.2.2.2.1 p.2.2.2.2)) b3 [R, LV, .isl false 1 (ints os), .isl p.2.2.1 1 (ints p.2.1), .isl true 5 [], .isl true 4 []]) (fun p => p.1) (y, [], true, a5, s5) ⟨by simp, by simp only [List.length_nil]; omega, rfl, by simp only; omega, ⟨y6, y7⟩⟩ (by simp (disch := omega) only [subT, Int.natCast_add, Int.cast_ofNat_Int, go_sem] <;> (repeat' apply And.intro) <;> first | rfl | (congr 1; omega) | assumption) rfl ?_
      clear y6 y7 y1 ha5 y2 y3 y4 y5
      rintro ⟨j, xs, fx, a, s⟩ ⟨hj, hxl, hxr, ha, hs⟩ ih
      dsimp only at hj hxl hxr ha hs
      simp (disch := omega) only [go_sem]
      first | refine iteW_dec (fun c6 => ?_) (fun c6 => ?_) | refine iteW_of (fun c6 => ?_) (fun c6 => ?_)
      · simp (disch := omega) only [go_sem]
        rw [W_draw]
        have g3d : ∀ a s F, del (upd (upd s0 b (srcC ex code a s)) b3 F) b b3 = some F := fun a s F => by rw [del_ne _ e3]; exact upd_same _ _ _
        refine DRun.start (DRun.mix1 (Mb _ _ _) rfl ?_)
        simp (disch := omega) only [g3d, go_sem]
        refine DS.callQ (next_ok (upd_same emp b (srcC ex code a s)) (by omega) hs) ⟨[], rfl, rfl⟩ rfl ?_
        rintro r sx ⟨x, a4, s4, w1, w2, w3, w4, w5, w6, w7, rfl, rfl⟩ _
        have hx : 0 ≤ x ∧ x < v + 1 := ⟨w1, w3 (by omega)⟩
        rw [upd_upd]
        simp (disch := omega) only [go_sem]
        refine ⟨_, rfl, ?_⟩
        rw [Mu]
        refine DRun.callQ (l06Insert_ok (ex := fx) (xs := xs) (x := x) (by omega)) ⟨[], rfl, rfl⟩ ?_
        rintro r sx ⟨rfl, hsx⟩
        obtain rfl := hsx.symm
        have hio2 := ins_rising hxr hx
        have hil2 := ins_len xs x
        simp (disch := omega) only [go_sem]
        refine DRun.mix1 (M3 _ _ _) rfl ?_
        simp (disch := omega) only [go_sem]
        refine DS.wrQ (WrF.store rfl (upd_same emp b3 _) rfl (by simp [ev, look, V.cells, V.one]) (by simp)) rfl ?_
        rintro _ sx ⟨_, rfl⟩ _
        rw [upd_upd]
        simp (disch := omega) only [V.cells, go_sem]
        refine ⟨_, rfl, ?_⟩
        obtain ⟨j, rfl⟩ : ∃ j', j = j' + 1 := ⟨j - 1, by omega⟩
        refine ih (j, insP xs x, false, a4, s4) _ _ ⟨by simp only; omega, by simp only; omega, hio2, by simp only; omega, ⟨w6, w7⟩⟩ (by simp only; omega) (by simp (disch := omega) only [subT, Int.natCast_add, Int.cast_ofNat_Int, go_sem] <;> (repeat' apply And.intro) <;> first | rfl | (congr 1; omega) | assumption) rfl
      · clear ih
        have hj0 : j = 0 := by omega
        subst hj0
        subst hLV
        generalize hOV : V.isl false 1 (ints os) = OV
        have hO1 : OV.one = true := by subst hOV; rfl
        generalize hXV : V.isl fx 1 (ints xs) = XV
        have hX1 : XV.one = true := by subst hXV; rfl
        have ha2 : 0 ≤ a ∧ a ≤ 90 := by omega
        simp (disch := omega) only [go_sem]
        refine SRun.callQ (next_ok (Mb _ _ _) (by omega) hs) ⟨[], rfl, rfl⟩ rfl ?_
        rintro r sx ⟨y2, a5, s5, z1, z2, z3, z4, z5, z6, z7, rfl, rfl⟩
        have hy2 := z3 (by omega)
        obtain ⟨y2, rfl⟩ : ∃ v' : Nat, y2 = v' := ⟨y2.toNat, by omega⟩
        rw [Mu]
        have ha5 : 0 ≤ a5 ∧ a5 ≤ 93 := by omega
        simp (disch := omega) only [go_sem]
        refine W_loopC (α := Nat × List Imp × Int × Int × V × St) (fun p => p.1 ≤ y2 ∧ p.2.1.length + p.1 ≤ y2 ∧ (∀ x ∈ p.2.1, impOn ls x = true) ∧ (0 ≤ p.2.2.1 ∧ p.2.2.1 ≤ 93 + 15 * ((y2 : Int) - p.1)) ∧ (0 ≤ p.2.2.2.1 ∧ p.2.2.2.1 < 2147483648) ∧ OwnL (upd (upd s0 b (srcC ex code p.2.2.1 p.2.2.2.1)) b3 [R, .isl false 3 (linksV ls), OV, XV, p.2.2.2.2.1, .isl true 4 []]) 5 (impsV p.2.1) p.2.2.2.2.1 p.2.2.2.2.2)
          (fun p => [(0, .ptr b 0), (2, .ptr b2 0), (3, .ptr b3 0), (4, .int .i64 ((v : Int) + 1)), (9, .int .i64 (p.1 : Nat))]) (fun p => p.2.2.2.2.2) (fun p => p.1) (y2, [], a5, s5, .isl true 5 [], _) ⟨by simp, by simp, by simp, by simp only; omega, ⟨z6, z7⟩, OwnL.nil _ _⟩ (by simp (disch := omega) only [subT, Int.natCast_add, Int.cast_ofNat_Int, go_sem] <;> (repeat' apply And.intro) <;> first | rfl | (congr 1; omega) | assumption) rfl ?_
        clear z1 z2 z3 z4 z5 z6 z7 ha5
        rintro ⟨j, is, a, s, q, σ1⟩ ⟨hj, hil, hall, ha, hs, ho⟩ ih
        dsimp only at hj hil hall ha hs ho
        have gb := ho.get (Mb _ _ _)
        have g3 := ho.get (M3 _ _ _)
        have gq1 := ho.one
        simp (disch := omega) only [go_sem]
        by_cases c7 : j > 0 ∧ ls.length > 0
        · have d1 : decide ((j : Int) > 0) = true := decide_eq_true (by omega)
          have d2 : decide ((ls.length : Int) > 0) = true := decide_eq_true (by omega)
          simp (disch := omega) only [d1, d2, g3, linksV_len, go_sem]
          rw [W_draw]
          have g3d : del σ1 b b3 = some [R, .isl false 3 (linksV ls), OV, XV, q, .isl true 4 []] := by rw [del_ne _ e3]; exact g3
          refine DRun.start (DRun.mixR1 gb (fun T s' => ∃ x a4 s4 b10, 0 ≤ x ∧ x < (ls.length : Int) ∧ a ≤ a4 ∧ a4 ≤ a + 3 ∧ (0 ≤ s4 ∧ s4 < 2147483648) ∧ b10 ≠ b ∧ σ1 b10 = none ∧ s' = upd (upd emp b (srcC ex code a4 s4)) b10 [.int .i64 0, .int .i64 0, .int .i64 0] ∧ look T 0 = .ptr b 0 ∧ look T 2 = .ptr b2 0 ∧ look T 3 = .ptr b3 0 ∧ look T 4 = .int .i64 ((v : Int) + 1) ∧ look T 9 = .int .i64 (j : Nat) ∧ look T 10 = .ptr b10 0 ∧ look T 112 = .agg (linkC (ls.getD x.toNat default))) rfl ?_ ?_)
          · have hlt : ∀ l : Link, (linkC l).take 3 = linkC l := fun _ => rfl
            have hlt2 : ∀ l : Link, (linkC l).length = 3 := fun _ => rfl
            have hfree : ∀ {b10 : Nat} {z y : List V}, disj (upd (upd emp b z) b10 y) (del σ1 b) → (upd emp b z) b10 = none → b10 ≠ b ∧ σ1 b10 = none := fun {b10 z y} hd hn => by
              have e := (upd_none.1 hn).1
              refine ⟨e, ?_⟩
              have := (hd b10).resolve_left (by rw [upd_same]; simp)
              rwa [del_ne _ e] at this
            simp (disch := omega) only [g3d, linksV_len, go_sem]
            refine DS.wr2 (WrF.call (next_ok (upd_same emp b (srcC ex code a s)) (by omega) hs) ⟨[], rfl, rfl⟩) rfl ?_ ?_
            · rintro r sx ⟨x, a4, s4, w1, w2, w3, w4, w5, w6, w7, rfl, rfl⟩ hd
              have hx := w3 (by omega)
              rw [upd_upd]
              simp (disch := omega) only [hlt, hlt2, go_sem]
              refine DS.wrQ WrF.alloc rfl ?_
              rintro _ s9 ⟨b10, hb10, rfl, rfl⟩ hd9
              obtain ⟨f1, f2⟩ := hfree hd9 hb10
              refine ⟨x, a4, s4, b10, w1, hx, w4, w5, ⟨w6, w7⟩, f1, f2, rfl, ?_⟩
              (repeat' apply And.intro) <;> rfl
            · refine DS.wrQ WrF.alloc rfl ?_
              rintro _ s9 ⟨b10, hb10, rfl, rfl⟩ hd9
              obtain ⟨f1, f2⟩ := hfree hd9 hb10
              simp (disch := omega) only [go_sem]
              refine DS.wrQ (WrF.call (next_ok (by rw [upd_ne _ _ f1.symm, upd_same]) (by omega) hs) ⟨[], rfl, rfl⟩) rfl ?_
              rintro r sx ⟨x, a4, s4, w1, w2, w3, w4, w5, w6, w7, rfl, rfl⟩ hd
              have hx := w3 (by omega)
              rw [upd_comm _ f1, upd_upd]
              simp (disch := omega) only [hlt, hlt2, go_sem]
              refine ⟨x, a4, s4, b10, w1, hx, w4, w5, ⟨w6, w7⟩, f1, f2, rfl, ?_⟩
              (repeat' apply And.intro) <;> rfl
          rintro T s' ⟨x, a4, s4, b10, x0, x1, a41, a42, hs4, f1, f2, rfl, k0, k2, k3, k4, k9, k10, k112⟩
          rw [cup_del2 f1]
          have hlm := getD_mem (xs := ls) default (by omega : x.toNat < ls.length)
          generalize ls.getD x.toNat default = lk at *
          have hlc : linkC lk = [.int .i64 lk.a, .int .i64 lk.b, .int .i64 lk.cost] := rfl
          have hM10 : upd (upd s0 b (srcC ex code a s)) b3 [R, .isl false 3 (linksV ls), OV, XV, q, .isl true 4 []] b10 = none := by
            cases e : upd (upd s0 b (srcC ex code a s)) b3 [R, .isl false 3 (linksV ls), OV, XV, q, .isl true 4 []] b10 with
            | none => rfl
            | some c => rw [ho.get e] at f2; cases f2
          have f3 : b3 ≠ b10 := fun e => by subst e; rw [g3] at f2; cases f2
          simp (disch := omega) only [k10, k112, hlc, k0, k2, k3, k4, k9, go_sem]
          rw [W_draw]
          have ho1 := ho.upd (c' := srcC ex code a4 s4) (Mb _ _ _)
          rw [Mu] at ho1
          have hf2 : upd σ1 b (srcC ex code a4 s4) b10 = none := by rw [upd_ne _ _ f1]; exact f2
          have ho2 := ho1.ext (z := linkC lk) hf2
          rw [hlc] at ho2
          generalize hσ2 : upd (upd σ1 b (srcC ex code a4 s4)) b10 [V.int .i64 lk.a, .int .i64 lk.b, .int .i64 lk.cost] = σ2 at *
          have q10 : σ2 b10 = some [V.int .i64 lk.a, .int .i64 lk.b, .int .i64 lk.cost] := by subst hσ2; exact upd_same _ _ _
          have qb : σ2 b = some (srcC ex code a4 s4) := by subst hσ2; rw [upd_ne _ _ f1.symm, upd_same]
          have q3 : σ2 b3 = some [R, .isl false 3 (linksV ls), OV, XV, q, .isl true 4 []] := by subst hσ2; rw [upd_ne _ _ f3, upd_ne _ _ e3]; exact g3
          have q10d : del σ2 b b10 = some [V.int .i64 lk.a, .int .i64 lk.b, .int .i64 lk.cost] := by rw [del_ne _ f1]; exact q10
          refine DRun.start (DRun.mixR1 qb (fun T s' => ∃ w d a5 s5 b11, (0 ≤ w ∧ w < 3) ∧ (0 ≤ d ∧ d < 4) ∧ a4 ≤ a5 ∧ a5 ≤ a4 + 6 ∧ (0 ≤ s5 ∧ s5 < 2147483648) ∧ b11 ≠ b ∧ σ2 b11 = none ∧ s' = upd (upd emp b (srcC ex code a5 s5)) b11 [.int .i64 0, .int .i64 0, .int .i64 0, .int .i64 0, .int .i64 0] ∧ look T 0 = .ptr b 0 ∧ look T 2 = .ptr b2 0 ∧ look T 3 = .ptr b3 0 ∧ look T 4 = .int .i64 ((v : Int) + 1) ∧ look T 9 = .int .i64 (j : Nat) ∧ look T 10 = .ptr b10 0 ∧ look T 11 = .ptr b11 0 ∧ look T 122 = .agg [.int .i64 lk.a, .int .i64 lk.b, .int .i64 w, .int .i64 (1 + d), .int .i64 0]) rfl ?_ ?_)
          · have hfree : ∀ {b11 : Nat} {z y : List V}, disj (upd (upd emp b z) b11 y) (del σ2 b) → (upd emp b z) b11 = none → b11 ≠ b ∧ σ2 b11 = none := fun {b11 z y} hd hn => by
              have e := (upd_none.1 hn).1
              refine ⟨e, ?_⟩
              have := (hd b11).resolve_left (by rw [upd_same]; simp)
              rwa [del_ne _ e] at this
            simp (disch := omega) only [q10d, k0, k2, k3, k4, k9, k10, go_sem]
            refine DS.wr2 (WrF.call (next_ok (upd_same emp b (srcC ex code a4 s4)) (by omega) hs4) ⟨[], rfl, rfl⟩) rfl ?_ ?_
            · rintro r sx ⟨w, a5, s5, w1, w2, w3, w4, w5, w6, w7, rfl, rfl⟩ hd
              have hw := w3 (by omega)
              rw [upd_upd]
              simp (disch := omega) only [go_sem]
              refine DS.wr2 (WrF.call (next_ok (upd_same emp b (srcC ex code a5 s5)) (by omega) ⟨w6, w7⟩) ⟨[], rfl, rfl⟩) rfl ?_ ?_
              · rintro r sx ⟨d, a6, s6, z1, z2, z3, z4, z5, z6, z7, rfl, rfl⟩ hd
                have hz := z3 (by omega)
                rw [upd_upd]
                simp (disch := omega) only [go_sem]
                refine DS.wrQ WrF.alloc rfl ?_
                rintro _ s9 ⟨b11, hb11, rfl, rfl⟩ hd9
                obtain ⟨h1, h2⟩ := hfree hd9 hb11
                refine ⟨w, d, a6, s6, b11, ⟨w1, hw⟩, ⟨z1, hz⟩, by omega, by omega, ⟨z6, z7⟩, h1, h2, rfl, ?_⟩
                (repeat' apply And.intro) <;> first | rfl | assumption
              · refine DS.wrQ WrF.alloc rfl ?_
                rintro _ s9 ⟨b11, hb11, rfl, rfl⟩ hd9
                obtain ⟨h1, h2⟩ := hfree hd9 hb11
                simp (disch := omega) only [go_sem]
                refine DS.wrQ (WrF.call (next_ok (by rw [upd_ne _ _ h1.symm, upd_same]) (by omega) ⟨w6, w7⟩) ⟨[], rfl, rfl⟩) rfl ?_
                rintro r sx ⟨d, a6, s6, z1, z2, z3, z4, z5, z6, z7, rfl, rfl⟩ hd
                have hz := z3 (by omega)
                rw [upd_comm _ h1, upd_upd]
                simp (disch := omega) only [go_sem]
                refine ⟨w, d, a6, s6, b11, ⟨w1, hw⟩, ⟨z1, hz⟩, by omega, by omega, ⟨z6, z7⟩, h1, h2, rfl, ?_⟩
                (repeat' apply And.intro) <;> first | rfl | assumption
            · refine DS.wrQ WrF.alloc rfl ?_
              rintro _ s9 ⟨b11, hb11, rfl, rfl⟩ hd9
              obtain ⟨h1, h2⟩ := hfree hd9 hb11
              simp (disch := omega) only [go_sem]
              refine DS.wrQ (WrF.call (next_ok (by rw [upd_ne _ _ h1.symm, upd_same]) (by omega) hs4) ⟨[], rfl, rfl⟩) rfl ?_
              rintro r sx ⟨w, a5, s5, w1, w2, w3, w4, w5, w6, w7, rfl, rfl⟩ hd
              have hw := w3 (by omega)
              rw [upd_comm _ h1, upd_upd]
              simp (disch := omega) only [go_sem]
              refine DS.wrQ (WrF.call (next_ok (by rw [upd_ne _ _ h1.symm, upd_same]) (by omega) ⟨w6, w7⟩) ⟨[], rfl, rfl⟩) rfl ?_
              rintro r sx ⟨d, a6, s6, z1, z2, z3, z4, z5, z6, z7, rfl, rfl⟩ hd
              have hz := z3 (by omega)
              rw [upd_comm _ h1, upd_upd]
              simp (disch := omega) only [go_sem]
              refine ⟨w, d, a6, s6, b11, ⟨w1, hw⟩, ⟨z1, hz⟩, by omega, by omega, ⟨z6, z7⟩, h1, h2, rfl, ?_⟩
              (repeat' apply And.intro) <;> first | rfl | assumption
          clear k0 k2 k3 k4 k9 k10 k112 T
          rintro T s' ⟨w, d, a5, s5, b11, hw, hd, a51, a52, hs5, h1, h2, rfl, k0, k2, k3, k4, k9, k10, k11, k122⟩
          rw [cup_del2 h1]
          have h3 : b3 ≠ b11 := fun e => by subst e; rw [q3] at h2; cases h2
          have h10 : b10 ≠ b11 := fun e => by subst e; rw [q10] at h2; cases h2
          have hM11 : upd (upd s0 b (srcC ex code a s)) b3 [R, .isl false 3 (linksV ls), OV, XV, q, .isl true 4 []] b11 = none := by
            cases e : upd (upd s0 b (srcC ex code a s)) b3 [R, .isl false 3 (linksV ls), OV, XV, q, .isl true 4 []] b11 with
            | none => rfl
            | some c =>
              have e2 := ho.get e
              have : σ2 b11 = some c := by
                subst hσ2; rw [upd_ne _ _ h10.symm, upd_ne _ _ h1]; exact e2
              rw [this] at h2; cases h2
          simp (disch := omega) only [k11, k122, go_sem]
          obtain ⟨B, hB⟩ : ∃ B : Int → Int → List V → List V → St, B = fun a s y z => upd (upd (upd (upd s0 b (srcC ex code a s)) b3 [R, .isl false 3 (linksV ls), OV, XV, q, .isl true 4 []]) b10 y) b11 z := ⟨_, rfl⟩
          have Bb : ∀ a s y z, B a s y z b = some (srcC ex code a s) := fun a s y z => by rw [hB]; simp only; rw [upd_ne _ _ h1.symm, upd_ne _ _ f1.symm]; exact Mb _ _ _
          have B3 : ∀ a s y z, B a s y z b3 = some [R, .isl false 3 (linksV ls), OV, XV, q, .isl true 4 []] := fun a s y z => by rw [hB]; simp only; rw [upd_ne _ _ h3, upd_ne _ _ f3]; exact M3 _ _ _
          have B10 : ∀ a s y z, B a s y z b10 = some y := fun a s y z => by rw [hB]; simp only; rw [upd_ne _ _ h10, upd_same]
          have B11 : ∀ a s y z, B a s y z b11 = some z := fun a s y z => by rw [hB]; exact upd_same _ _ _
          have Bu : ∀ a s a' s' y z, upd (B a s y z) b (srcC ex code a' s') = B a' s' y z := fun a s a' s' y z => by rw [hB]; simp only; rw [upd_comm _ h1, upd_comm _ f1, Mu]
          have Bu11 : ∀ a s y z z', upd (B a s y z) b11 z' = B a s y z' := fun a s y z z' => by rw [hB]; simp only; rw [upd_upd]
          have ho4 : OwnL (B a5 s5 [.int .i64 lk.a, .int .i64 lk.b, .int .i64 lk.cost] [.int .i64 lk.a, .int .i64 lk.b, .int .i64 w, .int .i64 (1 + d), .int .i64 0]) 5 (impsV is) q (upd (upd σ2 b (srcC ex code a5 s5)) b11 [.int .i64 lk.a, .int .i64 lk.b, .int .i64 w, .int .i64 (1 + d), .int .i64 0]) := by
            have h4 := ho2.upd (c' := srcC ex code a5 s5) (b := b) (by rw [upd_ne _ _ f1.symm]; exact Mb _ _ _)
            rw [upd_comm _ f1, Mu] at h4
            rw [hB]
            exact h4.ext (by rw [upd_ne _ _ h1]; exact h2)
          generalize upd (upd σ2 b (srcC ex code a5 s5)) b11 [V.int .i64 lk.a, .int .i64 lk.b, .int .i64 w, .int .i64 (1 + d), .int .i64 0] = σ3 at *
          simp (disch := omega) only [k0, go_sem]
          refine SRun.callQ (chance_ok (ho4.get (Bb _ _ _ _)) (by omega) hs5 (by decide)) ⟨[], rfl, rfl⟩ rfl ?_
          rintro r sx ⟨cv, a6, s6, u1, u2, u3, u4, rfl, rfl⟩
          have ho5 := ho4.upd (c' := srcC ex code a6 s6) (Bb _ _ _ _)
          rw [Bu] at ho5
          generalize upd σ3 b (srcC ex code a6 s6) = σ4 at *
          simp (disch := omega) only [go_sem]
          refine iteW_join (fun T s' => ∃ f t, ((f = lk.a ∧ t = lk.b) ∨ (f = lk.b ∧ t = lk.a)) ∧ OwnL (B a6 s6 [.int .i64 lk.a, .int .i64 lk.b, .int .i64 lk.cost] [.int .i64 f, .int .i64 t, .int .i64 w, .int .i64 (1 + d), .int .i64 0]) 5 (impsV is) q s' ∧ look T 0 = .ptr b 0 ∧ look T 2 = .ptr b2 0 ∧ look T 3 = .ptr b3 0 ∧ look T 4 = .int .i64 ((v : Int) + 1) ∧ look T 9 = .int .i64 (j : Nat) ∧ look T 11 = .ptr b11 0) (fun k' key => ?_) ?_
          · cases cv with
            | false =>
              simp (disch := omega) only [go_sem]
              exact key _ _ ⟨lk.a, lk.b, .inl ⟨rfl, rfl⟩, ho5, k0, k2, k3, k4, k9, k11⟩
            | true =>
              have ho6 := ho5.upd (c' := [.int .i64 lk.b, .int .i64 lk.b, .int .i64 w, .int .i64 (1 + d), .int .i64 0]) (B11 _ _ _ _)
              rw [Bu11] at ho6
              have ho7 := ho6.upd (c' := [.int .i64 lk.b, .int .i64 lk.a, .int .i64 w, .int .i64 (1 + d), .int .i64 0]) (B11 _ _ _ _)
              rw [Bu11, upd_upd] at ho7
              simp (disch := omega) only [k10, k11, ho5.get (B10 _ _ _ _), ho5.get (B11 _ _ _ _), h10, go_sem]
              exact key _ _ ⟨lk.b, lk.a, .inr ⟨rfl, rfl⟩, ho7, k0, k2, k3, k4, k9, k11⟩
          clear ho5 ho4 k0 k2 k3 k4 k9 k10 k11 k122 T
          rintro T sx ⟨f, t, hft, ho5, k0, k2, k3, k4, k9, k11⟩
          simp (disch := omega) only [k11, ho5.get (B11 _ _ _ _), go_sem]
          refine iteW_join (fun T s' => ∃ N a7 s7, (N = 0 ∨ (d = 1 ∧ 0 ≤ N ∧ N ≤ 1000)) ∧ (a6 ≤ a7 ∧ a7 ≤ a6 + 3) ∧ (0 ≤ s7 ∧ s7 < 2147483648) ∧ OwnL (B a7 s7 [.int .i64 lk.a, .int .i64 lk.b, .int .i64 lk.cost] [.int .i64 f, .int .i64 t, .int .i64 w, .int .i64 (1 + d), .int .i64 N]) 5 (impsV is) q s' ∧ look T 0 = .ptr b 0 ∧ look T 2 = .ptr b2 0 ∧ look T 3 = .ptr b3 0 ∧ look T 4 = .int .i64 ((v : Int) + 1) ∧ look T 9 = .int .i64 (j : Nat) ∧ look T 11 = .ptr b11 0) (fun k' key => ?_) ?_
          · by_cases c8 : 1 + d = 2
            · have d3 : decide (1 + d = 2) = true := decide_eq_true c8
              simp (disch := omega) only [d3, k0, go_sem]
              refine SRun.callQ (next_ok (ho5.get (Bb _ _ _ _)) (by omega) ⟨u3, u4⟩) ⟨[], rfl, rfl⟩ rfl ?_
              rintro r sx ⟨N, a7, s7, z1, z2, z3, z4, z5, z6, z7, rfl, rfl⟩
              have hz := z3 (by omega)
              have ho6 := ho5.upd (c' := srcC ex code a7 s7) (Bb _ _ _ _)
              rw [Bu] at ho6
              have ho7 := ho6.upd (c' := [.int .i64 f, .int .i64 t, .int .i64 w, .int .i64 (1 + d), .int .i64 (50 * N)]) (B11 _ _ _ _)
              rw [Bu11] at ho7
              simp (disch := omega) only [k11, ho6.get (B11 _ _ _ _), go_sem]
              exact key _ _ ⟨50 * N, a7, s7, .inr ⟨by omega, by omega, by omega⟩, by omega, ⟨z6, z7⟩, ho7, k0, k2, k3, k4, k9, k11⟩
            · have d3 : decide (1 + d = 2) = false := decide_eq_false c8
              simp (disch := omega) only [d3, go_sem]
              exact key _ _ ⟨0, a6, s6, .inl rfl, by omega, ⟨u3, u4⟩, ho5, k0, k2, k3, k4, k9, k11⟩
          clear ho5 k0 k2 k3 k4 k9 k11 T
          rintro T sx ⟨N, a7, s7, hN, ha7, hs7, ho5, k0, k2, k3, k4, k9, k11⟩
          simp (disch := omega) only [k3, k11, ho5.get (B3 _ _ _ _), ho5.get (B11 _ _ _ _), go_sem]
          refine SRun.appL ho5 rfl (imp1_ok ⟨f, t, w, 1 + d, N⟩) (by simp only [impsV_len, List.length_singleton]; omega) ?_
          intro q' σ6 ho6
          have hap : impsV is ++ [V.agg [.int .i64 f, .int .i64 t, .int .i64 w, .int .i64 (1 + d), .int .i64 N]] = impsV (is ++ [⟨f, t, w, 1 + d, N⟩]) := imps_app is ⟨f, t, w, 1 + d, N⟩
          rw [hap] at ho6
          simp (disch := omega) only [k3, k9, ho6.get (B3 _ _ _ _), ho6.one, ho6.cells, go_sem]
          have ho7 := ho6.upd (c' := [R, .isl false 3 (linksV ls), OV, XV, q', .isl true 4 []]) (B3 _ _ _ _)
          have hMa : ∀ bx, upd (upd s0 b (srcC ex code a s)) b3 [R, .isl false 3 (linksV ls), OV, XV, q, .isl true 4 []] bx = none → upd (upd s0 b (srcC ex code a7 s7)) b3 [R, .isl false 3 (linksV ls), OV, XV, q, .isl true 4 []] bx = none := fun bx h => by
            have e1 := (upd_none.1 h).1
            have e2 := (upd_none.1 (upd_none.1 h).2)
            rw [upd_ne _ _ e1, upd_ne _ _ e2.1]; exact e2.2
          have hbx := le_boxes (F' := [R, .isl false 3 (linksV ls), OV, XV, q', .isl true 4 []]) (y := [.int .i64 lk.a, .int .i64 lk.b, .int .i64 lk.cost]) (z := [.int .i64 f, .int .i64 t, .int .i64 w, .int .i64 (1 + d), .int .i64 N]) (hMa _ hM10) (hMa _ hM11) (M3 _ _ _)
          rw [upd_upd] at hbx
          rw [hB] at ho7
          obtain ⟨σ8, f8, ho8⟩ := ownL_less ho7 hbx
          refine W_freezeL (σ' := σ8) (T' := [(0, .ptr b 0), (2, .ptr b2 0), (3, .ptr b3 0), (4, .int .i64 ((v : Int) + 1)), (9, .int .i64 ((j : Int) - 1))]) f8 (frzT_of_sub (by simp (disch := omega) only [subT, Int.natCast_add, Int.cast_ofNat_Int, k0, k2, k3, k4, k9, go_sem] <;> (repeat' apply And.intro) <;> first | rfl | (congr 1; omega) | assumption)) ?_
          have hlk2 := linkP_mem hlm (joinB_self lk)
          have hlk3 := linkP_mem hlm (joinB_swap lk)
          obtain ⟨j, rfl⟩ : ∃ j', j = j' + 1 := ⟨j - 1, by omega⟩
          refine ih (j, is ++ [⟨f, t, w, 1 + d, N⟩], a7, s7, q', σ8) _ _ ⟨by simp only; omega, by simp only [List.length_append, List.length_singleton]; omega, fun x hx => ?_, by simp only; omega, hs7, ho8⟩ (by simp only; omega) (by simp (disch := omega) only [subT, Int.natCast_add, Int.cast_ofNat_Int, go_sem] <;> (repeat' apply And.intro) <;> first | rfl | (congr 1; omega) | assumption) rfl
          rcases List.mem_append.1 hx with hx | hx
          · exact hall x hx
          · rw [List.mem_singleton.1 hx]
            simp only [impOn, impB, inB, Bool.and_eq_true, decide_eq_true_eq]
            refine ⟨?_, ⟨⟨by omega, by omega⟩, ⟨by omega, by omega⟩⟩, ?_⟩
            · rcases hft with ⟨rfl, rfl⟩ | ⟨rfl, rfl⟩
              · exact hlk2
              · exact hlk3
            · split
              · omega
              · rename_i hne; rcases hN with h | h <;> omega
        · clear ih
          have hin := ownL_frzIn (cs' := [R, .isl false 3 (linksV ls), OV, XV, .isl false 5 (impsV is), .isl true 4 []]) ho (by simp only [List.mem_cons, List.not_mem_nil, or_false, forall_eq_or_imp, forall_eq]; exact ⟨hR1, rfl, hO1, hX1, rfl, rfl⟩) (fun hf => by exact ⟨.refl _, .refl _, .refl _, .refl _, hf, .refl _, trivial⟩)
          have ha3 : 0 ≤ a ∧ a ≤ 160 := by omega
          by_cases c8 : j > 0
          case' pos =>
            have d1 : decide ((j : Int) > 0) = true := decide_eq_true (by omega)
            have d2 : decide ((ls.length : Int) > 0) = false := decide_eq_false (by omega)
            simp (disch := omega) only [d1, d2, g3, linksV_len, go_sem]
            clear d1 d2 c7 c8
          case' neg =>
            have d1 : decide ((j : Int) > 0) = false := decide_eq_false (by omega)
            simp (disch := omega) only [d1, go_sem]
            clear d1 c7 c8
          all_goals
            refine SRun.freezeIn (T' := [(0, V.ptr b 0), (2, V.ptr b2 0), (3, V.ptr b3 0), (4, V.int .i64 ((v : Int) + 1)), (144, V.ptr b 0)]) hin (frzT_of_sub (by simp (disch := omega) only [subT, Int.natCast_add, Int.cast_ofNat_Int, go_sem] <;> (repeat' apply And.intro) <;> first | rfl | (congr 1; omega) | assumption)) ?_
            refine SRun.callQ (next_ok (Mb _ _ _) (by omega) hs) ⟨[], rfl, rfl⟩ rfl ?_
            rintro r sx ⟨y3, a5, s5, z1, z2, z3, z4, z5, z6, z7, rfl, rfl⟩
            have hy3 := z3 (by omega)
            obtain ⟨y3, rfl⟩ : ∃ v' : Nat, y3 = v' := ⟨y3.toNat, by omega⟩
            rw [Mu]
            have ha5 : 0 ≤ a5 ∧ a5 ≤ 163 := by omega
            simp (disch := omega) only [go_sem]
            refine W_loopC (α := Nat × List Fil × Int × Int × V × St) (fun p => p.1 ≤ y3 ∧ p.2.1.length + p.1 ≤ y3 ∧ (∀ x ∈ p.2.1, filOn ls x = true) ∧ (0 ≤ p.2.2.1 ∧ p.2.2.1 ≤ 163 + 9 * ((y3 : Int) - p.1)) ∧ (0 ≤ p.2.2.2.1 ∧ p.2.2.2.1 < 2147483648) ∧ OwnL (upd (upd s0 b (srcC ex code p.2.2.1 p.2.2.2.1)) b3 [R, .isl false 3 (linksV ls), OV, XV, .isl false 5 (impsV is), p.2.2.2.2.1]) 4 (filsV p.2.1) p.2.2.2.2.1 p.2.2.2.2.2)
              (fun p => [(0, .ptr b 0), (2, .ptr b2 0), (3, .ptr b3 0), (4, .int .i64 ((v : Int) + 1)), (12, .int .i64 (p.1 : Nat))]) (fun p => p.2.2.2.2.2) (fun p => p.1) (y3, [], a5, s5, .isl true 4 [], _) ⟨by simp, by simp, by simp, by simp only; omega, ⟨z6, z7⟩, OwnL.nil _ _⟩ (by simp (disch := omega) only [subT, Int.natCast_add, Int.cast_ofNat_Int, go_sem] <;> (repeat' apply And.intro) <;> first | rfl | (congr 1; omega) | assumption) rfl ?_
            clear z1 z2 z3 z4 z5 z6 z7 ha5 hin ho gb g3 gq1
            generalize hIV : V.isl false 5 (impsV is) = IV
            have hI1 : IV.one = true := by subst hIV; rfl
            rintro ⟨j, fs, a, s, q, σ1⟩ ⟨hj, hfl, hfa, ha, hs, ho⟩ ih
            dsimp only at hj hfl hfa ha hs ho
            have gb := ho.get (Mb _ _ _)
            have g3 := ho.get (M3 _ _ _)
            have gq1 := ho.one
            simp (disch := omega) only [go_sem]
            by_cases c9 : j > 0 ∧ ls.length > 0
            · have d1 : decide ((j : Int) > 0) = true := decide_eq_true (by omega)
              have d2 : decide ((ls.length : Int) > 0) = true := decide_eq_true (by omega)
              simp (disch := omega) only [d1, d2, g3, linksV_len, go_sem]
              rw [W_draw]
              have g3d : del σ1 b b3 = some [R, .isl false 3 (linksV ls), OV, XV, IV, q] := by rw [del_ne _ e3]; exact g3
              refine DRun.start (DRun.mixR1 gb (fun T s' => ∃ x a4 s4 b13, 0 ≤ x ∧ x < (ls.length : Int) ∧ a ≤ a4 ∧ a4 ≤ a + 3 ∧ (0 ≤ s4 ∧ s4 < 2147483648) ∧ b13 ≠ b ∧ σ1 b13 = none ∧ s' = upd (upd emp b (srcC ex code a4 s4)) b13 [.int .i64 0, .int .i64 0, .int .i64 0] ∧ look T 0 = .ptr b 0 ∧ look T 2 = .ptr b2 0 ∧ look T 3 = .ptr b3 0 ∧ look T 4 = .int .i64 ((v : Int) + 1) ∧ look T 12 = .int .i64 (j : Nat) ∧ look T 13 = .ptr b13 0 ∧ look T 164 = .agg (linkC (ls.getD x.toNat default))) rfl ?_ ?_)
              · have hlt : ∀ l : Link, (linkC l).take 3 = linkC l := fun _ => rfl
                have hlt2 : ∀ l : Link, (linkC l).length = 3 := fun _ => rfl
                have hfree : ∀ {b10 : Nat} {z y : List V}, disj (upd (upd emp b z) b10 y) (del σ1 b) → (upd emp b z) b10 = none → b10 ≠ b ∧ σ1 b10 = none := fun {b10 z y} hd hn => by
                  have e := (upd_none.1 hn).1
                  refine ⟨e, ?_⟩
                  have := (hd b10).resolve_left (by rw [upd_same]; simp)
                  rwa [del_ne _ e] at this
                simp (disch := omega) only [g3d, linksV_len, go_sem]
                refine DS.wr2 (WrF.call (next_ok (upd_same emp b (srcC ex code a s)) (by omega) hs) ⟨[], rfl, rfl⟩) rfl ?_ ?_
                · rintro r sx ⟨x, a4, s4, w1, w2, w3, w4, w5, w6, w7, rfl, rfl⟩ hd
                  have hx := w3 (by omega)
                  rw [upd_upd]
                  simp (disch := omega) only [hlt, hlt2, go_sem]
                  refine DS.wrQ WrF.alloc rfl ?_
                  rintro _ s9 ⟨b10, hb10, rfl, rfl⟩ hd9
                  obtain ⟨f1, f2⟩ := hfree hd9 hb10
                  refine ⟨x, a4, s4, b10, w1, hx, w4, w5, ⟨w6, w7⟩, f1, f2, rfl, ?_⟩
                  (repeat' apply And.intro) <;> rfl
                · refine DS.wrQ WrF.alloc rfl ?_
                  rintro _ s9 ⟨b10, hb10, rfl, rfl⟩ hd9
                  obtain ⟨f1, f2⟩ := hfree hd9 hb10
                  simp (disch := omega) only [go_sem]
                  refine DS.wrQ (WrF.call (next_ok (by rw [upd_ne _ _ f1.symm, upd_same]) (by omega) hs) ⟨[], rfl, rfl⟩) rfl ?_
                  rintro r sx ⟨x, a4, s4, w1, w2, w3, w4, w5, w6, w7, rfl, rfl⟩ hd
                  have hx := w3 (by omega)
                  rw [upd_comm _ f1, upd_upd]
                  simp (disch := omega) only [hlt, hlt2, go_sem]
                  refine ⟨x, a4, s4, b10, w1, hx, w4, w5, ⟨w6, w7⟩, f1, f2, rfl, ?_⟩
                  (repeat' apply And.intro) <;> rfl
              rintro T s' ⟨x, a4, s4, b13, x0, x1, a41, a42, hs4, f1, f2, rfl, k0, k2, k3, k4, k12, k13, k164⟩
              rw [cup_del2 f1]
              have hlm := getD_mem (xs := ls) default (by omega : x.toNat < ls.length)
              generalize ls.getD x.toNat default = lk at *
              have hlc : linkC lk = [.int .i64 lk.a, .int .i64 lk.b, .int .i64 lk.cost] := rfl
              have hM13 : upd (upd s0 b (srcC ex code a s)) b3 [R, .isl false 3 (linksV ls), OV, XV, IV, q] b13 = none := by
                cases e : upd (upd s0 b (srcC ex code a s)) b3 [R, .isl false 3 (linksV ls), OV, XV, IV, q] b13 with
                | none => rfl
                | some c => rw [ho.get e] at f2; cases f2
              have f3 : b3 ≠ b13 := fun e => by subst e; rw [g3] at f2; cases f2
              obtain ⟨B, hB⟩ : ∃ B : Int → Int → List V → St, B = fun a s y => upd (upd (upd s0 b (srcC ex code a s)) b3 [R, .isl false 3 (linksV ls), OV, XV, IV, q]) b13 y := ⟨_, rfl⟩
              have Bb : ∀ a s y, B a s y b = some (srcC ex code a s) := fun a s y => by rw [hB]; simp only; rw [upd_ne _ _ f1.symm]; exact Mb _ _ _
              have B3 : ∀ a s y, B a s y b3 = some [R, .isl false 3 (linksV ls), OV, XV, IV, q] := fun a s y => by rw [hB]; simp only; rw [upd_ne _ _ f3]; exact M3 _ _ _
              have B13 : ∀ a s y, B a s y b13 = some y := fun a s y => by rw [hB]; exact upd_same _ _ _
              have Bu : ∀ a s a' s' y, upd (B a s y) b (srcC ex code a' s') = B a' s' y := fun a s a' s' y => by rw [hB]; simp only; rw [upd_comm _ f1, Mu]
              simp (disch := omega) only [k13, k164, hlc, k0, go_sem]
              have ho2 : OwnL (B a4 s4 [.int .i64 lk.a, .int .i64 lk.b, .int .i64 lk.cost]) 4 (filsV fs) q (upd (upd σ1 b (srcC ex code a4 s4)) b13 [.int .i64 lk.a, .int .i64 lk.b, .int .i64 lk.cost]) := by
                have h4 := ho.upd (c' := srcC ex code a4 s4) (Mb _ _ _)
                rw [Mu] at h4
                rw [hB]
                exact h4.ext (by rw [upd_ne _ _ f1]; exact f2)
              generalize upd (upd σ1 b (srcC ex code a4 s4)) b13 [V.int .i64 lk.a, .int .i64 lk.b, .int .i64 lk.cost] = σ2 at *
              refine SRun.callQ (next_ok (ho2.get (Bb _ _ _)) (by omega) hs4) ⟨[], rfl, rfl⟩ rfl ?_
              rintro r sx ⟨lo, a6, s6, u1, u2, u3, u4, u5, u6, u7, rfl, rfl⟩
              have hlo := u3 (by omega)
              have ho3 := ho2.upd (c' := srcC ex code a6 s6) (Bb _ _ _)
              rw [Bu] at ho3
              generalize upd σ2 b (srcC ex code a6 s6) = σ3 at *
              simp (disch := omega) only [go_sem]
              rw [W_draw]
              have g33 := ho3.get (B3 _ _ _)
              have g3d : del σ3 b b3 = some [R, .isl false 3 (linksV ls), OV, XV, IV, q] := by rw [del_ne _ e3]; exact g33
              have g13d : del σ3 b b13 = some [.int .i64 lk.a, .int .i64 lk.b, .int .i64 lk.cost] := by rw [del_ne _ f1]; exact ho3.get (B13 _ _ _)
              refine DRun.start (DRun.mix1 (ho3.get (Bb _ _ _)) rfl ?_)
              simp (disch := omega) only [g3d, g13d, k0, k3, k13, go_sem]
              refine DS.callQ (next_ok (upd_same emp b (srcC ex code a6 s6)) (by omega) ⟨u6, u7⟩) ⟨[], rfl, rfl⟩ rfl ?_
              rintro r sx ⟨w, a7, s7, w1, w2, w3, w4, w5, w6, w7, rfl, rfl⟩ _
              have hw := w3 (by omega)
              rw [upd_upd]
              simp (disch := omega) only [go_sem]
              refine ⟨_, rfl, ?_⟩
              have ho4 := ho3.upd (c' := srcC ex code a7 s7) (Bb _ _ _)
              rw [Bu] at ho4
              refine DRun.appL ho4 rfl (filn1_ok ⟨lk.a, lk.b, lo, lo + w⟩) (by rw [filsV_len]; simp only [List.length_singleton]; omega) ?_
              intro q' σ6 ho6
              have hap : filsV fs ++ [V.agg [.int .i64 lk.a, .int .i64 lk.b, .int .i64 lo, .int .i64 (lo + w)]] = filsV (fs ++ [⟨lk.a, lk.b, lo, lo + w⟩]) := filsn_app fs ⟨lk.a, lk.b, lo, lo + w⟩
              rw [hap] at ho6
              simp (disch := omega) only [k3, k12, ho6.get (B3 _ _ _), ho6.one, ho6.cells, go_sem]
              have ho7 := ho6.upd (c' := [R, .isl false 3 (linksV ls), OV, XV, IV, q']) (B3 _ _ _)
              have hMa : upd (upd s0 b (srcC ex code a7 s7)) b3 [R, .isl false 3 (linksV ls), OV, XV, IV, q] b13 = none := by
                have e1 := (upd_none.1 hM13).1
                have e2 := (upd_none.1 (upd_none.1 hM13).2)
                rw [upd_ne _ _ e1, upd_ne _ _ e2.1]; exact e2.2
              have hbx : ∀ d x, upd (upd s0 b (srcC ex code a7 s7)) b3 [R, .isl false 3 (linksV ls), OV, XV, IV, q'] d = some x → upd (B a7 s7 [.int .i64 lk.a, .int .i64 lk.b, .int .i64 lk.cost]) b3 [R, .isl false 3 (linksV ls), OV, XV, IV, q'] d = some x := by
                intro d x h
                by_cases e : d = b3
                · subst e; rw [upd_same] at h ⊢; exact h
                · rw [upd_ne _ _ e] at h ⊢
                  have e13 : d ≠ b13 := fun e => by subst e; rw [upd_ne _ _ f3.symm] at hMa; rw [hMa] at h; cases h
                  rw [hB]; simp only; rw [upd_ne _ _ e13, upd_ne _ _ e]; exact h
              obtain ⟨σ8, f8, ho8⟩ := ownL_less ho7 hbx
              refine W_freezeL (σ' := σ8) (T' := [(0, .ptr b 0), (2, .ptr b2 0), (3, .ptr b3 0), (4, .int .i64 ((v : Int) + 1)), (12, .int .i64 ((j : Int) - 1))]) f8 (frzT_of_sub (by simp (disch := omega) only [subT, Int.natCast_add, Int.cast_ofNat_Int, k0, k2, k3, k4, k12, go_sem] <;> (repeat' apply And.intro) <;> first | rfl | (congr 1; omega) | assumption)) ?_
              have hlk2 := linkP_mem hlm (joinB_self lk)
              obtain ⟨j, rfl⟩ : ∃ j', j = j' + 1 := ⟨j - 1, by omega⟩
              refine ih (j, fs ++ [⟨lk.a, lk.b, lo, lo + w⟩], a7, s7, q', σ8) _ _ ⟨by simp only; omega, by simp only [List.length_append, List.length_singleton]; omega, fun x hx => ?_, by simp only; omega, ⟨w6, w7⟩, ho8⟩ (by simp only; omega) (by simp (disch := omega) only [subT, Int.natCast_add, Int.cast_ofNat_Int, go_sem] <;> (repeat' apply And.intro) <;> first | rfl | (congr 1; omega) | assumption) rfl
              rcases List.mem_append.1 hx with hx | hx
              · exact hfa x hx
              · rw [List.mem_singleton.1 hx]
                simp only [filOn, inB, Bool.and_eq_true, decide_eq_true_eq]
                exact ⟨⟨hlk2, by omega, by omega⟩, by omega⟩
            · clear ih
              have g2' := ho.get (M2 _ _ _)
              have hqc := ho.cells
              obtain ⟨n, hn⟩ : ∃ n : Net, n = ⟨names4 (v + 1), ls, os, xs, is, fs⟩ := ⟨_, rfl⟩
              have hcast : ((names4 (v + 1)).length : Int) = (v : Int) + 1 := by rw [hkl]; rfl
              have hNB : netB n = true := by
                subst hn
                have k1 := names4_ok (k := v + 1) (by omega)
                have k2 : (List.range ls.length).all (linkAt ((names4 (v + 1)).length : Int) ls) = true := by rw [hcast]; exact hlk
                have k3 : is.all (impOn ls) = true := List.all_eq_true.2 hall
                have k4 : fs.all (filOn ls) = true := List.all_eq_true.2 hfa
                have k5 : risingB ((names4 (v + 1)).length : Int) os = true := by rw [hcast]; exact hio
                have k6 : risingB ((names4 (v + 1)).length : Int) xs = true := by rw [hcast]; exact hxr
                unfold netB
                rw [k1, k2, k3, k4, k5, k6, decide_eq_true (by rw [hkl]; omega : 1 ≤ (names4 (v + 1)).length), decide_eq_true (by rw [hkl]; omega : (names4 (v + 1)).length ≤ 4), decide_eq_true hll, decide_eq_true (by omega : is.length ≤ 12), decide_eq_true (by omega : fs.length ≤ 6), decide_eq_true (by omega : xs.length ≤ 2)]
                rfl
              have hNL : NetLen n := by
                subst hn
                refine ⟨by rw [hkl]; omega, fun w hw => ?_, by simp only; omega, by simp only; omega, by simp only; omega, by simp only; omega, by simp only; omega⟩
                have := List.mem_of_mem_take hw
                simp only [List.mem_cons, List.not_mem_nil, or_false] at this
                rcases this with rfl | rfl | rfl | rfl <;> simp
              have hos : n.origins.length ≤ 4 := by subst hn; simp only; omega
              have fin : ∀ σ9, σ9 = upd σ1 b2 [R, .isl false 3 (linksV ls), OV, XV, IV, q] → Conv σ9 (.agg [R, .isl false 3 (linksV ls), OV, XV, IV, q]) (upd σ b (srcC ex code a s)) (netV n) := by
                rintro _ rfl
                refine ⟨fun d x hd => ?_, ?_⟩
                · have e2d : d ≠ b2 := fun e => by subst e; rw [upd_ne _ _ e2, hb2] at hd; cases hd
                  have e3d : d ≠ b3 := fun e => by
                    subst e
                    rw [upd_ne _ _ e3] at hd
                    rw [hσ0 _ _ hd] at h03; cases h03
                  rw [upd_ne _ _ e2d]
                  refine ho.get ?_
                  rw [upd_ne _ _ e3d]
                  by_cases eb : d = b
                  · subst eb; rw [upd_same] at hd ⊢; exact hd
                  · rw [upd_ne _ _ eb] at hd ⊢; exact hσ0 _ _ hd
                · subst hn hRV hOV hXV hIV
                  have hq : Frz (upd σ1 b2 [V.isl (decide (1 + (v : Int) = 4)) 1 (strsV (names4 (v + 1))), .isl false 3 (linksV ls), .isl false 1 (ints os), .isl fx 1 (ints xs), .isl false 5 (impsV is), q]) (upd σ b (srcC ex code a s)) q (.isl false 4 (filsV fs)) := ho.frz (fun d hd => by
                    have hd3 := (upd_none.1 hd).1
                    have hd2 : d ≠ b2 := fun e => by
                      subst e
                      rw [upd_ne _ _ e23, upd_ne _ _ e2, g2] at hd; cases hd
                    rw [upd_ne _ _ hd2]) (fun d hd => by
                    have h1 := upd_none.1 (upd_none.1 hd).2
                    rw [upd_ne _ _ h1.1]
                    cases e : σ d with
                    | none => rfl
                    | some c => rw [hσ0 _ _ e] at h1; cases h1.2)
                  exact frz_agg (by exact ⟨.isl _ _ _, .refl _, .refl _, .isl _ _ _, .refl _, hq, trivial⟩) (net_one _)
              by_cases c8 : j > 0
              case' pos =>
                have d1 : decide ((j : Int) > 0) = true := decide_eq_true (by omega)
                have d2 : decide ((ls.length : Int) > 0) = false := decide_eq_false (by omega)
                simp (disch := omega) only [Z6, d1, d2, g3, g2', linksV_len, gq1, hqc, hR1, hO1, hX1, hI1, go_sem]
              case' neg =>
                have d1 : decide ((j : Int) > 0) = false := decide_eq_false (by omega)
                simp (disch := omega) only [Z6, d1, g3, g2', gq1, hqc, hR1, hO1, hX1, hI1, go_sem]
              all_goals
                exact W_retC c44_ok (resV_cellA rfl (upd_same _ _ _) rfl) (fin _ rfl) ⟨n, a, s, hNB, hNL, hos, ha.1, by omega, hs.1, hs.2, rfl, rfl⟩
end
section
attribute [local irreducible] SRun DS DRun
variable {Γ : St} {σ σ0 : St}
theorem NetOf_ok {ex : Bool} {code : List UInt8} (hl : code.length ≤ 140737488355328) : ACalls Tryz.prog Γ 12 [codeV ex code] σ fun r σ' => ∃ n, netB n = true ∧ NetLen n ∧ n.origins.length ≤ 4 ∧ r = netV n ∧ σ' = σ := by
  refine acalls_W c12_ok rfl ?_
  simp (disch := omega) only [c12, go_sem]
  refine SRun.allocR ?_
  intro b2 hb2
  simp (disch := omega) only [go_sem]
  refine SRun.callQ (source_ok hl) ⟨[], rfl, rfl⟩ rfl ?_
  rintro r σ1 ⟨b, s, hb, hs1, hs2, rfl, rfl⟩
  have nb := upd_none.1 hb
  simp (disch := omega) only [go_sem]
  refine SRun.callQ (net_ok (upd_same _ b (srcC ex code 0 s)) ⟨hs1, hs2⟩) ⟨[], rfl, rfl⟩ rfl ?_
  rintro r σ3 ⟨n, a3, s3, q1, q2, q3, q4, q5, q6, q7, rfl, rfl⟩
  rw [upd_upd]
  have g2 : ∀ c, upd (upd σ b2 [V.isl true 0 [], V.isl true 0 [], V.isl true 0 [], V.isl true 0 [], V.isl true 0 [], V.isl true 0 []]) b c b2 = some [V.isl true 0 [], V.isl true 0 [], V.isl true 0 [], V.isl true 0 [], V.isl true 0 [], V.isl true 0 []] := fun c => by rw [upd_ne _ _ nb.1.symm, upd_same]
  have hne := net_one n
  have hnc : netV n = .agg (netC n) := rfl
  have hlen2 : (netC n).length = 6 := rfl
  have hone : (∀ c, c ∈ netC n → c.one = true) = True := eq_true hne
  have hsets : sets [V.isl true 0 [], V.isl true 0 [], V.isl true 0 [], V.isl true 0 [], V.isl true 0 [], V.isl true 0 []] 0 (netC n) = netC n := rfl
  rw [hnc]
  simp (disch := omega) only [g2, hlen2, hone, hsets, go_sem]
  refine W_retC c12_ok (r := .agg (netC n)) (σ' := σ) (r' := netV n) (resV_cellA rfl (upd_same _ _ _) rfl) (Conv.drop _ fun c x hc => ?_) ⟨n, q1, q2, q3, rfl, rfl⟩
  have hc2 : c ≠ b2 := fun e => by subst e; rw [hb2] at hc; cases hc
  have hcb : c ≠ b := fun e => by subst e; rw [nb.2] at hc; cases hc
  rw [upd_ne _ _ hc2, upd_ne _ _ hcb, upd_ne _ _ hc2]; exact hc
end
end Go.Proofs.YtjibkkhgejcjeaaGreatDoor.Lg
