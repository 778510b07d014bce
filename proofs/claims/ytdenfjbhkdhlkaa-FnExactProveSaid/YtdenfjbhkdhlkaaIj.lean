/- What comes in, of types that lead back to themselves; expressions that come in. -/
import Derived.Test.YtdenfjbhkdhlkaaGr
import Derived.Test.YtdenfjbhkdhlkaaIi
set_option linter.unusedSimpArgs false
set_option linter.unusedVariables false
namespace Go.Proofs.Ytdenfjbhkdhlkaa.Lg
open Go Go.ChangeShapes Go.WideShapes
/-- A type, told by its parts, which are all of S. -/
def tyIn (P : Program) (S : List TypeId) (t : TypeId) : Bool := match P.underlying t with
  | some .bool => P.cellsOf t == 1
  | some (.int _) => P.cellsOf t == 1
  | some .string => P.cellsOf t == 1
  | some (.slice e) => P.cellsOf t == 1 && decide (0 < P.cellsOf e) && decide (e ∈ S)
  | some (.struct fs) => laid P fs.toList 0 (P.cellsOf t) && fs.toList.all fun f => decide (f.type ∈ S)
  | _ => false
theorem rows_inS {H : Type} {enc : TypeId × Value → H} {P : Program} {w : World} {base : Nat} {spare : Nat → Bool} {held : Bool} {O : Nat → Prop} (hO : ∀ b, ¬ O b) :
    ∀ (S : List TypeId), (S.all (tyIn P S)) = true → ∀ (fuel : Nat) (t : TypeId) (cs : List Value) (x : DataW H × List MemPlace), t ∈ S → DataW.trod enc P w base spare held fuel t cs = some x → ∃ xs, InV P t xs ∧ Rows w O xs cs ∧ cs.length = P.cellsOf t := by
  intro S hS fuel
  induction fuel using Nat.strongRecOn with
  | _ fuel ih =>
    intro t cs x ht hd
    have h := List.all_eq_true.1 hS t ht
    unfold tyIn at h
    split at h
    · rename_i hu
      obtain ⟨b, rfl, _⟩ := DataW.trod_bool hu hd
      exact ⟨_, .bool b hu, .single rfl (.bool b), (eq_of_beq h).symm⟩
    · rename_i hu
      obtain ⟨b, rfl, _, hw⟩ := DataW.trod_int hu hd
      exact ⟨_, .int b hu hw, .single rfl (.int _ b), (eq_of_beq h).symm⟩
    · rename_i hu
      obtain ⟨s, rfl, _, hw⟩ := DataW.trod_string hu hd
      exact ⟨_, .str s.data.toList hu (by simpa using hw), .single rfl (.str s.data.toList), (eq_of_beq h).symm⟩
    · rename_i e hu
      simp only [Bool.and_eq_true, decide_eq_true_eq] at h
      obtain ⟨⟨h1, h2⟩, h3⟩ := h
      rcases DataW.trod_slice hu hd with ⟨rfl, _⟩ | ⟨a, len, cap, elems, rest, n, hfu, rfl, _, hb, hl, hm, hlen, hel, _⟩
      · exact ⟨_, .sl [] hu (Nat.zero_le _) (fun y hy => by cases hy) (fun y hy => by cases hy), .single rfl (.isl0 _ _ none 0 (fun h => by cases h)), (eq_of_beq h1).symm⟩
      have hex : ∀ i, i < len → ∃ y : V, (packed P e y ∧ InV P e y.cells) ∧ y.cells.length = P.cellsOf e ∧ ∃ cs', w.cells? base (a.add (i * P.cellsOf e)) (P.cellsOf e) = some cs' ∧ Rows w O y.cells cs' := by
        intro i hi
        have h4 := hel i hi
        rw [List.getElem?_eq_getElem (by omega)] at h4
        cases hc : w.cells? base (a.add (i * P.cellsOf e)) (P.cellsOf e) with
        | none => rw [hc] at h4; simp at h4
        | some cs' =>
          rw [hc, Option.bind_some] at h4
          obtain ⟨xs, i1, i2, i3⟩ := ih n (by omega) e cs' _ h3 h4
          have hpk : ∃ y : V, y.cells = xs ∧ packed P e y := by
            cases i1 with
            | bool b hu => exact ⟨.bool b, rfl, by simp [packed, hu, V.one]⟩
            | int b hu _ => exact ⟨.int _ b, rfl, by simp [packed, hu, V.one]⟩
            | str b hu _ => exact ⟨.str b, rfl, by simp [packed, hu, V.one]⟩
            | sl ys hu _ _ _ => exact ⟨.isl _ _ _, rfl, by simp [packed, hu, V.one]⟩
            | st xs hu _ _ => exact ⟨.agg xs, rfl, by simp [packed, hu]⟩
          obtain ⟨y, rfl, hp⟩ := hpk
          exact ⟨y, ⟨hp, i1⟩, by rw [i2.len, i3], cs', rfl, i2⟩
      obtain ⟨ys, hyl, hys⟩ := list_of len hex
      have hall : ∀ y ∈ ys, packed P e y ∧ InV P e y.cells := fun y hy => by
        obtain ⟨i, hi, rfl⟩ := List.getElem_of_mem hy
        exact (hys i _ (List.getElem?_eq_getElem hi)).1
      refine ⟨_, .sl ys hu (by omega) (fun y hy => (hall y hy).1) (fun y hy => (hall y hy).2), .single (by rfl) ?_, (eq_of_beq h1).symm⟩
      by_cases hl0 : len = 0
      · have : ys = [] := List.eq_nil_of_length_eq_zero (by omega)
        subst this
        subst hl0
        exact .isl0 _ _ _ _ (fun h => by cases h)
      have hcl : ∀ y ∈ ys, y.cells.length = P.cellsOf e := fun y hy => by
        obtain ⟨i, hi, rfl⟩ := List.getElem_of_mem hy
        exact (hys i _ (List.getElem?_eq_getElem hi)).2.1
      obtain ⟨_, _, cs0, hc0, _⟩ := hys 0 _ (List.getElem?_eq_getElem (by omega : 0 < ys.length))
      rw [Nat.zero_mul] at hc0
      obtain ⟨_, k1, k2⟩ := World.cells?_some hc0
      have k3 := k2 0 h2
      rw [List.getElem?_eq_getElem (by omega), add_zero, add_zero] at k3
      have hsp := spot_none k3
      obtain ⟨b, off, spot⟩ := a
      simp only at hsp
      subst hsp
      have hblt : b < w.heap.size := by
        unfold World.cell? at k3
        split at k3
        · rename_i hb; exact lt_of_get hb
        · cases k3
      have hmem : Mem w O (flat ys) b off := by
        intro i x hx
        have hil : i < (flat ys).length := (List.getElem?_eq_some_iff.1 hx).1
        rw [flat_length hcl] at hil
        have hq : i / P.cellsOf e < ys.length := (Nat.div_lt_iff_lt_mul h2).2 hil
        have hr : i % P.cellsOf e < P.cellsOf e := Nat.mod_lt _ h2
        have hat := flat_at hcl hq
        have hidx : (ys.getD (i / P.cellsOf e) .undef).cells[i % P.cellsOf e]? = some x := by
          rw [← hat, List.getElem?_take, if_pos hr, List.getElem?_drop, ← hx]
          congr 1
          rw [Nat.mul_comm]
          exact Nat.div_add_mod i (P.cellsOf e)
        rw [List.getD_eq_getElem?_getD, List.getElem?_eq_getElem hq, Option.getD_some] at hidx
        obtain ⟨_, q1, cs', q2, q3⟩ := hys _ _ (List.getElem?_eq_getElem hq)
        obtain ⟨_, k1, k2⟩ := World.cells?_some q2
        have k4 := k2 _ hr
        rw [addr_add, addr_add, List.getElem?_eq_getElem (by omega)] at k4
        refine ⟨q3.one x (List.mem_of_getElem? hidx), cs'[i % P.cellsOf e], ?_, q3.rep _ _ _ hidx (List.getElem?_eq_getElem (by omega))⟩
        rw [← k4]
        congr 2
        have := Nat.div_add_mod i (P.cellsOf e)
        rw [Nat.mul_comm] at this
        omega
      have := hmem.isl (es := P.cellsOf e) (c := cap) (ex := false) hblt (hO b) (by omega) (fun h => by cases h) hcl
      rw [hyl] at this
      exact this
    · rename_i fs hu
      simp only [Bool.and_eq_true] at h
      obtain ⟨h1, h2⟩ := h
      obtain ⟨zs, n, hfu, _, hcl, hzl, hz⟩ := DataW.trod_struct hu hd
      obtain ⟨xs, x1, x2⟩ := rows_fields (w := w) (O := O) (cs := cs) fs.toList 0 (P.cellsOf t) h1 (by omega) (fun f hf => by
        obtain ⟨i, hi, rfl⟩ := List.getElem_of_mem hf
        have hfi : fs[i]? = some fs.toList[i] := by simp at hi; simp [hi]
        have h4 := hz i _ hfi
        rw [List.getElem?_eq_getElem (by simp at hi; omega)] at h4
        obtain ⟨ys, y1, y2, _⟩ := ih n (by omega) _ _ _ (of_decide_eq_true (List.all_eq_true.1 h2 _ hf)) h4
        exact ⟨ys, y1, y2⟩)
      rw [List.drop_zero, Nat.sub_zero, List.take_of_length_le (by omega)] at x1
      refine ⟨xs, .st xs hu (by rw [x1.len, hcl]) fun i f hf => ?_, x1, hcl⟩
      have := (x2 f (by rw [Array.mem_toList_iff]; exact Array.mem_of_getElem? hf)).2
      rw [Nat.sub_zero] at this
      exact this
    · cases h
theorem rep_structS {H : Type} {enc : TypeId × Value → H} {P : Program} {w : World} {base : Nat} {spare : Nat → Bool} {held : Bool} {O : Nat → Prop} (hO : ∀ b, ¬ O b) {t : TypeId} {fs : Array Field} {r : Reach} {b0 : Nat} {v : Value} {d : DataW H} {ps : List MemPlace} (S : List TypeId) (hS : (S.all (tyIn P S)) = true) (hm : t ∈ S)
    (ht : P.underlying t = some (.struct fs)) (hval : Value.okWide P w r b0 t v) (hd : DataW.Trod enc P w base spare held t v d ps) : ∃ xs, InV P t xs ∧ Rep w O (.agg xs) v := by
  obtain ⟨cs, rfl, hcl⟩ := okWide_struct ht hval
  obtain ⟨fuel, hf⟩ := hd
  obtain ⟨xs, i1, i2, i3⟩ := rows_inS hO S hS fuel t cs.toList _ hm hf
  refine ⟨xs, i1, .agg xs cs (by simpa using i2.len) (fun i x hx => i2.one x (List.mem_of_getElem? hx)) fun i x hx => ?_⟩
  have hi : i < xs.length := (List.getElem?_eq_some_iff.1 hx).1
  have hl : i < cs.size := by have := i2.len; simp at this; omega
  refine i2.rep i x _ hx ?_
  simp [Array.getD, hl]
/-- An expression that comes in. -/
theorem in_exs {P : Program} {ti tE ts : TypeId} {fs : Array Field} (hi : P.underlying ti = some (.int .i64)) (ci : P.cellsOf ti = 1) (hE : P.underlying tE = some (.struct fs)) (cE : P.cellsOf tE = 3) (hs : P.underlying ts = some (.slice tE)) (cs : P.cellsOf ts = 1) (hfl : fs.toList.map (fun f => (f.type, f.offset)) = [(ti, 0), (ti, 1), (ts, 2)]) :
    ∀ (t : TypeId) (xs : List V), InV P t xs → (t = tE → ∃ e, xs = exC e ∧ LenE e) ∧ (t = ts → ∃ ks, xs = [.isl false 3 (exsV ks)] ∧ ks.length ≤ 9223372036854775807 ∧ ∀ e ∈ ks, LenE e) := by
  have hget : ∀ (i : Nat) (t : TypeId) (o : Nat), [(ti, 0), (ti, 1), (ts, 2)][i]? = some (t, o) → ∃ f, fs[i]? = some f ∧ f.type = t ∧ f.offset = o := by
    intro i t o hi
    rw [← hfl, List.getElem?_map, Option.map_eq_some_iff] at hi
    obtain ⟨f, h1, h2⟩ := hi
    obtain ⟨rfl, rfl⟩ := Prod.mk.inj h2
    exact ⟨f, by simpa using h1, rfl, rfl⟩
  intro t xs h
  induction h with
  | bool b hu => exact ⟨fun e => by (rw [e, hE] at hu; cases hu), fun e => by (rw [e, hs] at hu; cases hu)⟩
  | int n hu hw => exact ⟨fun e => by (rw [e, hE] at hu; cases hu), fun e => by (rw [e, hs] at hu; cases hu)⟩
  | str s hu hw => exact ⟨fun e => by (rw [e, hE] at hu; cases hu), fun e => by (rw [e, hs] at hu; cases hu)⟩
  | sl ys hu hlen hp hy ih =>
    refine ⟨fun e => by (rw [e, hE] at hu; cases hu), fun e => ?_⟩
    rw [e, hs] at hu
    cases hu
    obtain ⟨ks, h1, h2⟩ := list_map (ys := ys) (F := exV) (p := LenE) fun y hym => by
      obtain ⟨x, hx, hx2⟩ := (ih y hym).1 rfl
      have hpk := hp y hym
      unfold packed at hpk
      rw [hE] at hpk
      obtain ⟨c, rfl⟩ := hpk
      refine ⟨x, ?_, hx2⟩
      rw [exV_agg, ← hx]; rfl
    refine ⟨ks, by rw [cE, h1]; rfl, ?_, h2⟩
    have : ks.length = ys.length := by rw [h1, List.length_map]
    have hm : maxLen = 9223372036854775807 := rfl
    omega
  | st xs hu hl hf ih =>
    refine ⟨fun e => ?_, fun e => by (rw [e, hs] at hu; cases hu)⟩
    subst e
    rw [hE] at hu
    cases hu
    rw [cE] at hl
    match xs, hl with
    | [a, b, c], _ =>
      obtain ⟨f0, p0, t0, o0⟩ := hget 0 ti 0 rfl
      obtain ⟨f1, p1, t1, o1⟩ := hget 1 ti 1 rfl
      obtain ⟨f2, p2, t2, o2⟩ := hget 2 ts 2 rfl
      have i0 := hf 0 f0 p0
      have i1 := hf 1 f1 p1
      have i2 := (ih 2 f2 p2).2 t2
      rw [t0, o0, ci] at i0
      rw [t1, o1, ci] at i1
      rw [t2, o2, cs] at i2
      obtain ⟨x, hx, _⟩ := i0.int_inv hi
      obtain ⟨y, hy, _⟩ := i1.int_inv hi
      obtain ⟨ks, hk, hk1, hk2⟩ := i2
      have ea : a = .int .i64 x := by simpa using hx
      have eb : b = .int .i64 y := by simpa using hy
      have ec : c = .isl false 3 (exsV ks) := by simpa using hk
      subst ea eb ec
      exact ⟨.mk x y ks, rfl, .mk hk1 hk2⟩
end Go.Proofs.Ytdenfjbhkdhlkaa.Lg
