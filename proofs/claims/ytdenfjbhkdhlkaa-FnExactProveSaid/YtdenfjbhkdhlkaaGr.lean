/- What comes in, of types that are built of truths, whole numbers, texts, slices and structures, as abstract values. -/
import Derived.Test.YtdenfjbhkdhlkaaSz
import Derived.ChangeArms
import Derived.DataReads
import Derived.ChangeShapes
import Derived.WideShapes
set_option linter.unusedSimpArgs false
set_option linter.unusedVariables false
namespace Go.Proofs.Ytdenfjbhkdhlkaa.Lg
open Go Go.ChangeShapes Go.WideShapes
/-- An element of a slice is packed: a structure is one value. -/
def packed (P : Program) (e : TypeId) (y : V) : Prop := match P.underlying e with | some (.struct _) => ∃ cs, y = .agg cs | _ => y.one = true
inductive InV (P : Program) : TypeId → List V → Prop
  | bool {t : TypeId} (b : Bool) : P.underlying t = some .bool → InV P t [.bool b]
  | int {t : TypeId} {k : IntKind} (n : Int) : P.underlying t = some (.int k) → (Lit.int k n).wf = true → InV P t [.int k n]
  | str {t : TypeId} (s : List UInt8) : P.underlying t = some .string → s.length ≤ maxLen → InV P t [.str s]
  | sl {t e : TypeId} (ys : List V) : P.underlying t = some (.slice e) → ys.length ≤ maxLen → (∀ y ∈ ys, packed P e y) → (∀ y ∈ ys, InV P e y.cells) → InV P t [.isl false (P.cellsOf e) ys]
  | st {t : TypeId} {fs : Array Field} (xs : List V) : P.underlying t = some (.struct fs) → xs.length = P.cellsOf t → (∀ (i : Nat) (f : Field), fs[i]? = some f → InV P f.type ((xs.drop f.offset).take (P.cellsOf f.type))) → InV P t xs
/-- Fields lie one behind the other. -/
def laid (P : Program) : List Field → Nat → Nat → Bool
  | [], o, m => o == m
  | f :: r, o, m => f.offset == o && laid P r (o + P.cellsOf f.type) m
def tyOK (P : Program) : Nat → TypeId → Bool
  | 0, _ => false
  | n + 1, t => match P.underlying t with
    | some .bool => P.cellsOf t == 1
    | some (.int _) => P.cellsOf t == 1
    | some .string => P.cellsOf t == 1
    | some (.slice e) => P.cellsOf t == 1 && decide (0 < P.cellsOf e) && tyOK P n e
    | some (.struct fs) => laid P fs.toList 0 (P.cellsOf t) && fs.toList.all fun f => tyOK P n f.type
    | _ => false
theorem laid_le {P : Program} : ∀ {l : List Field} {o m : Nat}, laid P l o m = true → o ≤ m := by
  intro l
  induction l with
  | nil => intro o m h; simp [laid] at h; omega
  | cons f r ih => intro o m h; simp [laid] at h; have := ih h.2; omega
/-- Abstract values of a row of the machine's. -/
structure Rows (w : World) (O : Nat → Prop) (xs : List V) (cs : List Value) : Prop where
  len : xs.length = cs.length
  one : ∀ x ∈ xs, x.one = true
  rep : ∀ (i : Nat) (x : V) (c : Value), xs[i]? = some x → cs[i]? = some c → Rep w O x c
theorem Rows.single {w : World} {O : Nat → Prop} {x : V} {c : Value} (h1 : x.one = true) (h : Rep w O x c) : Rows w O [x] [c] :=
  ⟨rfl, by simpa using h1, fun i y d hy hd => by
    cases i with
    | zero => simp at hy hd; subst hy hd; exact h
    | succ i => simp at hy⟩
theorem rows_fields {P : Program} {w : World} {O : Nat → Prop} {cs : List Value} : ∀ (l : List Field) (o m : Nat), laid P l o m = true → m ≤ cs.length →
    (∀ f ∈ l, ∃ ys, InV P f.type ys ∧ Rows w O ys ((cs.drop f.offset).take (P.cellsOf f.type))) →
    ∃ xs, Rows w O xs ((cs.drop o).take (m - o)) ∧ ∀ f ∈ l, o ≤ f.offset ∧ InV P f.type ((xs.drop (f.offset - o)).take (P.cellsOf f.type)) := by
  intro l
  induction l with
  | nil =>
    intro o m h _ _
    simp [laid] at h
    subst h
    exact ⟨[], ⟨by simp, by simp, fun i x c hx => by simp at hx⟩, fun f hf => by cases hf⟩
  | cons f r ih =>
    intro o m h hm hf
    simp [laid] at h
    obtain ⟨h1, h2⟩ := h
    have hle := laid_le h2
    obtain ⟨ys, y1, y2⟩ := hf f (by simp)
    obtain ⟨xs, x1, x2⟩ := ih _ _ h2 hm fun g hg => hf g (by simp [hg])
    have yl : ys.length = P.cellsOf f.type := by rw [y2.len, List.length_take, List.length_drop]; omega
    have xl : xs.length = m - (o + P.cellsOf f.type) := by rw [x1.len, List.length_take, List.length_drop]; omega
    refine ⟨ys ++ xs, ⟨?_, ?_, ?_⟩, ?_⟩
    · rw [List.length_append, List.length_take, List.length_drop]; omega
    · intro x hx
      rcases List.mem_append.1 hx with hx | hx
      · exact y2.one x hx
      · exact x1.one x hx
    · intro i x c hx hc
      rw [List.getElem?_take] at hc
      split at hc
      · rename_i hi
        rw [List.getElem?_drop] at hc
        by_cases hil : i < ys.length
        · rw [List.getElem?_append_left hil] at hx
          refine y2.rep i x c hx ?_
          rw [List.getElem?_take, if_pos (by omega), List.getElem?_drop, h1]
          exact hc
        · rw [List.getElem?_append_right (by omega)] at hx
          refine x1.rep (i - ys.length) x c hx ?_
          rw [List.getElem?_take, if_pos (by omega), List.getElem?_drop, ← hc]
          congr 1
          omega
      · cases hc
    · intro g hg
      rcases List.mem_cons.1 hg with rfl | hg
      · refine ⟨by omega, ?_⟩
        rw [h1, Nat.sub_self, List.drop_zero, List.take_append_of_le_length (by omega), List.take_of_length_le (by omega)]
        exact y1
      · obtain ⟨g1, g2⟩ := x2 g hg
        refine ⟨by omega, ?_⟩
        rw [List.drop_append, List.drop_of_length_le (by omega : ys.length ≤ g.offset - o), List.nil_append, show g.offset - o - ys.length = g.offset - (o + P.cellsOf f.type) by omega]
        exact g2
theorem list_of {Q : Nat → V → Prop} : ∀ (n : Nat), (∀ i, i < n → ∃ y, Q i y) → ∃ ys : List V, ys.length = n ∧ ∀ i y, ys[i]? = some y → Q i y := by
  intro n
  induction n with
  | zero => intro _; exact ⟨[], rfl, fun i y h => by simp at h⟩
  | succ n ih =>
    intro h
    obtain ⟨ys, h1, h2⟩ := ih fun i hi => h i (by omega)
    obtain ⟨y, hy⟩ := h n (by omega)
    refine ⟨ys ++ [y], by simp [h1], fun i z hz => ?_⟩
    by_cases hi : i < ys.length
    · rw [List.getElem?_append_left hi] at hz; exact h2 i z hz
    · rw [List.getElem?_append_right (by omega)] at hz
      have : i - ys.length = 0 := by
        cases hj : i - ys.length with
        | zero => rfl
        | succ j => rw [hj] at hz; simp at hz
      rw [this] at hz
      simp at hz
      subst hz
      rw [show i = n by omega]
      exact hy
theorem spot_none {w : World} {a : Addr} {v : Value} (h : w.cell? a = some v) : a.spot = none := by
  obtain ⟨b, off, spot⟩ := a
  cases spot with
  | none => rfl
  | some s =>
    unfold World.cell? at h
    split at h <;> simp at h
theorem add_zero (a : Addr) : a.add 0 = a := by obtain ⟨b, off, spot⟩ := a; simp [Addr.add]
theorem rows_in {H : Type} {enc : TypeId × Value → H} {P : Program} {w : World} {base : Nat} {spare : Nat → Bool} {held : Bool} {O : Nat → Prop} (hO : ∀ b, ¬ O b) :
    ∀ (m : Nat) (t : TypeId) (fuel : Nat) (cs : List Value) (x : DataW H × List MemPlace), tyOK P m t = true → DataW.trod enc P w base spare held fuel t cs = some x → ∃ xs, InV P t xs ∧ Rows w O xs cs ∧ cs.length = P.cellsOf t := by
  intro m
  induction m with
  | zero => intro t fuel cs x h; simp [tyOK] at h
  | succ m ih =>
    intro t fuel cs x h hd
    unfold tyOK at h
    split at h
    · rename_i hu
      obtain ⟨b, rfl, _⟩ := DataW.trod_bool hu hd
      exact ⟨_, .bool b hu, .single rfl (.bool b), (eq_of_beq h).symm⟩
    · rename_i hu
      obtain ⟨b, rfl, _, hw⟩ := DataW.trod_int hu hd
      exact ⟨_, .int b hu hw, .single rfl (.int _ b), (eq_of_beq h).symm⟩
    · rename_i hu
      obtain ⟨s, rfl, _, hw⟩ := DataW.trod_string hu hd
      exact ⟨_, .str s.data.toList hu (by simpa using hw), .single rfl (.str s.data.toList), (eq_of_beq h).symm⟩
    · rename_i e hu
      simp only [Bool.and_eq_true, decide_eq_true_eq] at h
      obtain ⟨⟨h1, h2⟩, h3⟩ := h
      rcases DataW.trod_slice hu hd with ⟨rfl, _⟩ | ⟨a, len, cap, elems, rest, n, _, rfl, _, hb, hl, hm, hlen, hel, _⟩
      · exact ⟨_, .sl [] hu (Nat.zero_le _) (fun y hy => by cases hy) (fun y hy => by cases hy), .single rfl (.isl0 _ _ none 0 (fun h => by cases h)), (eq_of_beq h1).symm⟩
      have hex : ∀ i, i < len → ∃ y : V, (packed P e y ∧ InV P e y.cells) ∧ y.cells.length = P.cellsOf e ∧ ∃ cs', w.cells? base (a.add (i * P.cellsOf e)) (P.cellsOf e) = some cs' ∧ Rows w O y.cells cs' := by
        intro i hi
        have h4 := hel i hi
        rw [List.getElem?_eq_getElem (by omega)] at h4
        cases hc : w.cells? base (a.add (i * P.cellsOf e)) (P.cellsOf e) with
        | none => rw [hc] at h4; simp at h4
        | some cs' =>
          rw [hc, Option.bind_some] at h4
          obtain ⟨xs, i1, i2, i3⟩ := ih e n cs' _ h3 h4
          have hpk : ∃ y : V, y.cells = xs ∧ packed P e y := by
            cases i1 with
            | bool b hu => exact ⟨.bool b, rfl, by simp [packed, hu, V.one]⟩
            | int b hu _ => exact ⟨.int _ b, rfl, by simp [packed, hu, V.one]⟩
            | str b hu _ => exact ⟨.str b, rfl, by simp [packed, hu, V.one]⟩
            | sl ys hu _ _ _ => exact ⟨.isl _ _ _, rfl, by simp [packed, hu, V.one]⟩
            | st xs hu _ _ => exact ⟨.agg xs, rfl, by simp [packed, hu]⟩
          obtain ⟨y, rfl, hp⟩ := hpk
          exact ⟨y, ⟨hp, i1⟩, by rw [i2.len, i3], cs', rfl, i2⟩
      obtain ⟨ys, hyl, hys⟩ := list_of len hex
      have hall : ∀ y ∈ ys, packed P e y ∧ InV P e y.cells := fun y hy => by
        obtain ⟨i, hi, rfl⟩ := List.getElem_of_mem hy
        exact (hys i _ (List.getElem?_eq_getElem hi)).1
      refine ⟨_, .sl ys hu (by omega) (fun y hy => (hall y hy).1) (fun y hy => (hall y hy).2), .single (by rfl) ?_, (eq_of_beq h1).symm⟩
      by_cases hl0 : len = 0
      · have : ys = [] := List.eq_nil_of_length_eq_zero (by omega)
        subst this
        subst hl0
        exact .isl0 _ _ _ _ (fun h => by cases h)
      have hcl : ∀ y ∈ ys, y.cells.length = P.cellsOf e := fun y hy => by
        obtain ⟨i, hi, rfl⟩ := List.getElem_of_mem hy
        exact (hys i _ (List.getElem?_eq_getElem hi)).2.1
      obtain ⟨_, _, cs0, hc0, _⟩ := hys 0 _ (List.getElem?_eq_getElem (by omega : 0 < ys.length))
      rw [Nat.zero_mul] at hc0
      obtain ⟨_, k1, k2⟩ := World.cells?_some hc0
      have k3 := k2 0 h2
      rw [List.getElem?_eq_getElem (by omega), add_zero, add_zero] at k3
      have hsp := spot_none k3
      obtain ⟨b, off, spot⟩ := a
      simp only at hsp
      subst hsp
      have hblt : b < w.heap.size := by
        unfold World.cell? at k3
        split at k3
        · rename_i hb; exact lt_of_get hb
        · cases k3
      have hmem : Mem w O (flat ys) b off := by
        intro i x hx
        have hil : i < (flat ys).length := (List.getElem?_eq_some_iff.1 hx).1
        rw [flat_length hcl] at hil
        have hq : i / P.cellsOf e < ys.length := (Nat.div_lt_iff_lt_mul h2).2 hil
        have hr : i % P.cellsOf e < P.cellsOf e := Nat.mod_lt _ h2
        have hat := flat_at hcl hq
        have hidx : (ys.getD (i / P.cellsOf e) .undef).cells[i % P.cellsOf e]? = some x := by
          rw [← hat, List.getElem?_take, if_pos hr, List.getElem?_drop, ← hx]
          congr 1
          rw [Nat.mul_comm]
          exact Nat.div_add_mod i (P.cellsOf e)
        rw [List.getD_eq_getElem?_getD, List.getElem?_eq_getElem hq, Option.getD_some] at hidx
        obtain ⟨_, q1, cs', q2, q3⟩ := hys _ _ (List.getElem?_eq_getElem hq)
        obtain ⟨_, k1, k2⟩ := World.cells?_some q2
        have k4 := k2 _ hr
        rw [addr_add, addr_add, List.getElem?_eq_getElem (by omega)] at k4
        refine ⟨q3.one x (List.mem_of_getElem? hidx), cs'[i % P.cellsOf e], ?_, q3.rep _ _ _ hidx (List.getElem?_eq_getElem (by omega))⟩
        rw [← k4]
        congr 2
        have := Nat.div_add_mod i (P.cellsOf e)
        rw [Nat.mul_comm] at this
        omega
      have := hmem.isl (es := P.cellsOf e) (c := cap) (ex := false) hblt (hO b) (by omega) (fun h => by cases h) hcl
      rw [hyl] at this
      exact this
    · rename_i fs hu
      simp only [Bool.and_eq_true] at h
      obtain ⟨h1, h2⟩ := h
      obtain ⟨zs, n, _, _, hcl, hzl, hz⟩ := DataW.trod_struct hu hd
      obtain ⟨xs, x1, x2⟩ := rows_fields (w := w) (O := O) (cs := cs) fs.toList 0 (P.cellsOf t) h1 (by omega) (fun f hf => by
        obtain ⟨i, hi, rfl⟩ := List.getElem_of_mem hf
        have hfi : fs[i]? = some fs.toList[i] := by simp at hi; simp [hi]
        have h4 := hz i _ hfi
        rw [List.getElem?_eq_getElem (by simp at hi; omega)] at h4
        obtain ⟨ys, y1, y2, _⟩ := ih _ n _ _ (List.all_eq_true.1 h2 _ hf) h4
        exact ⟨ys, y1, y2⟩)
      rw [List.drop_zero, Nat.sub_zero, List.take_of_length_le (by omega)] at x1
      refine ⟨xs, .st xs hu (by rw [x1.len, hcl]) fun i f hf => ?_, x1, hcl⟩
      have := (x2 f (by rw [Array.mem_toList_iff]; exact Array.mem_of_getElem? hf)).2
      rw [Nat.sub_zero] at this
      exact this
    · cases h
theorem InV.int_inv {P : Program} {t : TypeId} {k : IntKind} {xs : List V} (h : InV P t xs) (hu : P.underlying t = some (.int k)) : ∃ n, xs = [.int k n] ∧ (Lit.int k n).wf = true := by
  cases h with
  | bool b h => rw [hu] at h; cases h
  | int n h hw => rw [hu] at h; cases h; exact ⟨n, rfl, hw⟩
  | str s h => rw [hu] at h; cases h
  | sl ys h => rw [hu] at h; cases h
  | st xs h => rw [hu] at h; cases h
theorem InV.bool_inv {P : Program} {t : TypeId} {xs : List V} (h : InV P t xs) (hu : P.underlying t = some .bool) : ∃ b, xs = [.bool b] := by
  cases h with
  | bool b h => exact ⟨b, rfl⟩
  | int n h hw => rw [hu] at h; cases h
  | str s h => rw [hu] at h; cases h
  | sl ys h => rw [hu] at h; cases h
  | st xs h => rw [hu] at h; cases h
theorem InV.str_inv {P : Program} {t : TypeId} {xs : List V} (h : InV P t xs) (hu : P.underlying t = some .string) : ∃ s, xs = [.str s] ∧ s.length ≤ maxLen := by
  cases h with
  | bool b h => rw [hu] at h; cases h
  | int n h hw => rw [hu] at h; cases h
  | str s h hl => exact ⟨s, rfl, hl⟩
  | sl ys h => rw [hu] at h; cases h
  | st xs h => rw [hu] at h; cases h
theorem InV.sl_inv {P : Program} {t e : TypeId} {xs : List V} (h : InV P t xs) (hu : P.underlying t = some (.slice e)) : ∃ ys, xs = [.isl false (P.cellsOf e) ys] ∧ ys.length ≤ maxLen ∧ (∀ y ∈ ys, packed P e y) ∧ ∀ y ∈ ys, InV P e y.cells := by
  cases h with
  | bool b h => rw [hu] at h; cases h
  | int n h hw => rw [hu] at h; cases h
  | str s h hl => rw [hu] at h; cases h
  | sl ys h h1 h2 h3 => rw [hu] at h; cases h; exact ⟨ys, rfl, h1, h2, h3⟩
  | st xs h => rw [hu] at h; cases h
theorem InV.st_inv {P : Program} {t : TypeId} {fs : Array Field} {xs : List V} (h : InV P t xs) (hu : P.underlying t = some (.struct fs)) : xs.length = P.cellsOf t ∧ ∀ (i : Nat) (f : Field), fs[i]? = some f → InV P f.type ((xs.drop f.offset).take (P.cellsOf f.type)) := by
  cases h with
  | bool b h => rw [hu] at h; cases h
  | int n h hw => rw [hu] at h; cases h
  | str s h hl => rw [hu] at h; cases h
  | sl ys h h1 h2 h3 => rw [hu] at h; cases h
  | st xs h h1 h2 => rw [hu] at h; cases h; exact ⟨h1, h2⟩
theorem list_map {α : Type} {F : α → V} {p : α → Prop} : ∀ {ys : List V}, (∀ y ∈ ys, ∃ x, y = F x ∧ p x) → ∃ zs : List α, ys = zs.map F ∧ ∀ z ∈ zs, p z := by
  intro ys
  induction ys with
  | nil => intro _; exact ⟨[], rfl, fun z hz => by cases hz⟩
  | cons y r ih =>
    intro h
    obtain ⟨x, rfl, hx⟩ := h y (by simp)
    obtain ⟨zs, rfl, hz⟩ := ih fun z hz => h z (by simp [hz])
    exact ⟨x :: zs, rfl, by simpa using ⟨hx, hz⟩⟩
theorem InV.slmap {P : Program} {t e : TypeId} {a : V} {α : Type} {F : α → V} {p : α → Prop} (h : InV P t [a]) (hu : P.underlying t = some (.slice e)) (hF : ∀ y, packed P e y → InV P e y.cells → ∃ x, y = F x ∧ p x) : ∃ zs : List α, a = .isl false (P.cellsOf e) (zs.map F) ∧ zs.length ≤ maxLen ∧ ∀ z ∈ zs, p z := by
  obtain ⟨ys, h1, h2, h3, h4⟩ := h.sl_inv hu
  obtain ⟨zs, rfl, hz⟩ := list_map (ys := ys) (F := F) (p := p) fun y hy => hF y (h3 y hy) (h4 y hy)
  refine ⟨zs, by simpa using h1, by simpa using h2, hz⟩
theorem one_of_single {y x : V} (h : y.cells = [x]) (h1 : y.one = true) : y = x := by cases y <;> first | (simp [V.cells] at h; exact h) | (simp [V.one] at h1)
/-- An argument that is a structure. -/
theorem rep_struct {H : Type} {enc : TypeId × Value → H} {P : Program} {w : World} {base : Nat} {spare : Nat → Bool} {held : Bool} {O : Nat → Prop} (hO : ∀ b, ¬ O b) {t : TypeId} {fs : Array Field} {r : Reach} {b0 : Nat} {v : Value} {d : DataW H} {ps : List MemPlace} (m : Nat)
    (ht : P.underlying t = some (.struct fs)) (hk : tyOK P m t = true) (hval : Value.okWide P w r b0 t v) (hd : DataW.Trod enc P w base spare held t v d ps) : ∃ xs, InV P t xs ∧ Rep w O (.agg xs) v := by
  obtain ⟨cs, rfl, hcl⟩ := okWide_struct ht hval
  obtain ⟨fuel, hf⟩ := hd
  obtain ⟨xs, i1, i2, i3⟩ := rows_in hO m t fuel cs.toList _ hk hf
  refine ⟨xs, i1, .agg xs cs (by simpa using i2.len) (fun i x hx => i2.one x (List.mem_of_getElem? hx)) fun i x hx => ?_⟩
  have hi : i < xs.length := (List.getElem?_eq_some_iff.1 hx).1
  have hl : i < cs.size := by have := i2.len; simp at this; omega
  refine i2.rep i x _ hx ?_
  simp [Array.getD, hl]
end Go.Proofs.Ytdenfjbhkdhlkaa.Lg
