/- The own logic, part C: the pure instructions are right: what the machine yields is what is told of it. It holds for every program. -/
import Derived.Test.YtdenfjbhkdhlkaaLgB
import Derived.Laws.Entries
import Derived.Laws.StructEq
set_option linter.unusedSimpArgs false
set_option linter.unusedVariables false
namespace Go.Proofs.Ytdenfjbhkdhlkaa.Lg
open Go

/-- The state of affairs in a frame: 'σ' is told of, 'τ' is owned beside it. -/
structure Pre (Γ : St) (T : Ts) (σ τ : St) (w : World) (a : Act) : Prop where
 dj : disj σ τ
 sim : Sim (cup σ τ) w
 glob : Glob Γ w (own (cup σ τ))
 kn : Knows w (own (cup σ τ)) T a.tmps

theorem rep_ofScalar {w : World} {O : Nat → Prop} {v : Value} {x : V} (h : ofScalar v = some x) : Rep w O x v := by
 unfold ofScalar at h
 split at h <;> first | (obtain rfl := Option.some.inj h; first | exact .bool _ | exact .int _ _ | exact .nilptr | exact .nilfn | exact .nilif | exact .isl0 _ _ _ _ (fun _ => rfl)) | (simp at h; done) | skip
 obtain rfl := Option.some.inj h
 rename_i s
 have := Rep.str (w := w) (O := O) s.data.toList
 simpa using this
theorem ofScalar_one {v : Value} {x : V} (h : ofScalar v = some x) : x.one = true := by
 unfold ofScalar at h
 split at h <;> first | (obtain rfl := Option.some.inj h; rfl) | (simp at h; done)
theorem mapM_some_get {α β : Type} {f : α → Option β} : ∀ {l : List α} {r : List β}, l.mapM f = some r → l.length = r.length ∧ ∀ (i : Nat) (y : β), r[i]? = some y → ∃ x, l[i]? = some x ∧ f x = some y := by
 intro l
 induction l with
 | nil => intro r h; simp at h; subst h; exact ⟨rfl, fun i y hy => by simp at hy⟩
 | cons a l ih =>
  intro r h
  rw [List.mapM_cons] at h
  cases hf : f a with
  | none => simp [hf] at h
  | some b =>
   cases hl : l.mapM f with
   | none => simp [hf, hl] at h
   | some q =>
    simp [hf, hl] at h
    subst h
    obtain ⟨h1, h2⟩ := ih hl
    refine ⟨by simp [h1], fun i y hy => ?_⟩
    cases i with
    | zero => simp at hy; subst hy; exact ⟨a, rfl, hf⟩
    | succ i => simp at hy; obtain ⟨x, hx, hy⟩ := h2 i y hy; exact ⟨x, by simpa using hx, hy⟩
theorem rep_ofValue {w : World} {O : Nat → Prop} {v : Value} {x : V} (h : ofValue v = some x) : Rep w O x v := by
 unfold ofValue at h
 split at h
 ·rename_i cs
  cases hm : cs.toList.mapM ofScalar with
  | none => simp [hm] at h
  | some l =>
   simp [hm] at h
   subst h
   obtain ⟨h1, h2⟩ := mapM_some_get hm
   refine .agg l cs (by simpa using h1.symm) (fun i x hx => ?_) (fun i x hx => ?_)
   ·obtain ⟨y, _, hy⟩ := h2 i x hx; exact ofScalar_one hy
   ·obtain ⟨y, hy0, hy⟩ := h2 i x hx
    have : cs.getD i undef = y := by
     rw [Array.getElem?_toList] at hy0
     simp [Array.getD_eq_getD_getElem?, hy0]
    rw [this]; exact rep_ofScalar hy
 ·exact rep_ofScalar h

theorem ev_rep {Γ : St} {T : Ts} {σ τ : St} {w : World} {a : Act} (h : Pre Γ T σ τ w a) {o : Operand} {x : Opd} (hx : opd o = some x) : Rep w (own (cup σ τ)) (ev Γ T x) (a.eval o) := by
 cases o with
 | tmp t => simp [opd] at hx; subst hx; exact h.kn t
 | const v =>
  simp [opd] at hx
  obtain ⟨y, hy, rfl⟩ := hx
  exact rep_ofValue hy
 | global g =>
  simp [opd] at hx; subst hx
  simp only [ev]
  split
  ·rename_i cs hc; exact h.glob g cs hc
  ·exact .undef _
 | func f => simp [opd] at hx; subst hx; exact .fn f [] #[] rfl (fun i x hx => by simp at hx)

/-- The value 'x' comes of the operation, and of memory nothing turns but that a block may have been made that nobody owns. -/
def Yields (P : Program) (o : Oper) (a : Act) (w : World) (O : Nat → Prop) (x : V) : Prop :=
 ∃ v w1, (execOp a.eval o).run P w = .ok (.value v) w1 ∧ ((w1.heap = w.heap ∨ ∃ ob, w1.heap = w.heap.push ob) ∧ SameIO w w1) ∧ Rep w1 O x v
theorem Yields.same {P : Program} {o : Oper} {a : Act} {w : World} {O : Nat → Prop} {x : V} {v : Value} (h : (execOp a.eval o).run P w = .ok (.value v) w) (hr : Rep w O x v) : Yields P o a w O x := ⟨v, w, h, ⟨.inl rfl, rfl, rfl, rfl, Nat.le_refl _⟩, hr⟩
theorem run_v {P : Program} {s : Sem Value} {v : Value} {w w1 : World} (h : s.run P w = .ok v w1) : (do pure (Next.value (← s)) : Sem Next).run P w = .ok (.value v) w1 := by
 simp [Sem.run_bind, h]

theorem getD_of_get? {l : List V} {i : Nat} {x : V} (h : l[i]? = some x) : l.getD i .undef = x := by simp [List.getD, h]
theorem agetD {a : Array Value} {i : Nat} {v : Value} (h : a[i]? = some v) : a.getD i undef = v := by simp [Array.getD_eq_getD_getElem?, h]
theorem aget_of_lt {a : Array Value} {i : Nat} (h : i < a.size) : a[i]? = some (a.getD i undef) := by simp [Array.getD_eq_getD_getElem?, h]

theorem underlying_info {P : Program} {t : TypeId} {d : TypeDesc} (h : P.underlying t = some d) : ∃ i, P.info? t = some i := by
 unfold Program.underlying at h
 cases hi : P.info? t with
 | none => simp [hi] at h
 | some i => exact ⟨i, rfl⟩
theorem run_sizeOf {P : Program} {t : TypeId} {i : TypeInfo} (h : P.info? t = some i) (w : World) : (sizeOf t).run P w = .ok (P.cellsOf t) w := by
 simp [sizeOf, typeInfo, h, Program.cellsOf]
theorem run_isAgg {P : Program} {t : TypeId} {d : TypeDesc} (h : P.underlying t = some d) (w : World) : (isAgg t).run P w = .ok (isAggT P t) w := by
 simp only [isAgg, Sem.run_bind, run_underlying h, Result.andThen_ok, isAggT, h]
 cases d <;> rfl

/-- A part of cells that are told. -/
theorem agg_part {w : World} {O : Nat → Prop} {cs : List V} {vs : Array Value} (hl : cs.length = vs.size) (h1 : ∀ (i : Nat) (x : V), cs[i]? = some x → x.one = true)
  (hr : ∀ (i : Nat) (x : V), cs[i]? = some x → Rep w O x (vs.getD i undef)) (off n : Nat) (hn : off + n ≤ cs.length) : Rep w O (.agg ((cs.drop off).take n)) (.agg (vs.extract off (off + n))) := by
 have hg : ∀ (i : Nat) (x : V), ((cs.drop off).take n)[i]? = some x → cs[off + i]? = some x ∧ i < n := by
  intro i x hx
  rw [List.getElem?_take] at hx
  split at hx
  ·rename_i hi; rw [List.getElem?_drop] at hx; exact ⟨hx, hi⟩
  ·simp at hx
 refine .agg _ _ (by simp; omega) (fun i x hx => h1 _ x (hg i x hx).1) (fun i x hx => ?_)
 obtain ⟨h2, hi⟩ := hg i x hx
 have := hr _ x h2
 have he : (vs.extract off (off + n)).getD i undef = vs.getD (off + i) undef := by
  simp only [Array.getD_eq_getD_getElem?]
  rw [Array.getElem?_extract]
  rw [if_pos (by omega)]
 rw [he]; exact this
theorem run_part {P : Program} {w : World} {O : Nat → Prop} {cs : List V} {vs : Array Value} {t : TypeId} {d : TypeDesc} (hd : P.underlying t = some d) (hl : cs.length = vs.size) (h1 : ∀ (i : Nat) (x : V), cs[i]? = some x → x.one = true)
  (hr : ∀ (i : Nat) (x : V), cs[i]? = some x → Rep w O x (vs.getD i undef)) (off n : Nat) (hc : P.cellsOf t = n) (hn : off + n ≤ cs.length) (h2 : isAggT P t = false → n = 1) :
  ∃ v, (part t vs off).run P w = .ok v w ∧ Rep w O (bif isAggT P t then .agg ((cs.drop off).take n) else cs.getD off .undef) v := by
 obtain ⟨i, hi⟩ := underlying_info hd
 cases ha : isAggT P t with
 | true =>
  refine ⟨.agg (vs.extract off (off + n)), ?_, agg_part hl h1 hr off n hn⟩
  simp [part, run_isAgg hd, ha, run_sizeOf hi, hc]
 | false =>
  have hn1 := h2 ha
  subst hn1
  have hlt : off < vs.size := by omega
  refine ⟨vs.getD off undef, ?_, ?_⟩
  ·simp only [part, Sem.run_bind, run_isAgg hd, ha, Result.andThen_ok, Bool.false_eq_true, if_false, aget_of_lt hlt]
   rfl
  ·have hx : cs[off]? = some (cs.getD off .undef) := by
    have : off < cs.length := by omega
    simp [List.getD, this]
   exact hr off _ hx

/-- Cells that lie in memory one behind the other. -/
def Mem (w : World) (O : Nat → Prop) (cs : List V) (b off : Nat) : Prop := ∀ (i : Nat) (x : V), cs[i]? = some x → x.one = true ∧ ∃ v, w.cell? ⟨b, off + i, none⟩ = some v ∧ Rep w O x v
theorem Mem.part {w : World} {O : Nat → Prop} {cs : List V} {b off : Nat} (h : Mem w O cs b off) (k n : Nat) : Mem w O ((cs.drop k).take n) b (off + k) := by
 intro i x hx
 rw [List.getElem?_take] at hx
 split at hx
 ·rw [List.getElem?_drop] at hx
  obtain ⟨h1, v, h2, h3⟩ := h _ x hx
  exact ⟨h1, v, by rw [Nat.add_assoc]; exact h2, h3⟩
 ·simp at hx
theorem Mem.drop {w : World} {O : Nat → Prop} {cs : List V} {b off : Nat} (h : Mem w O cs b off) (k : Nat) : Mem w O (cs.drop k) b (off + k) := by
 have := h.part k cs.length
 rwa [List.take_of_length_le (by simp)] at this
theorem addr_add (b off i : Nat) : (⟨b, off, none⟩ : Addr).add i = ⟨b, off + i, none⟩ := by
 unfold Addr.add; split
 ·rename_i h; subst h; rfl
 ·rfl
theorem Sim.mem {σ : St} {w : World} (h : Sim σ w) {b : Nat} {cs : List V} (hb : σ b = some cs) : Mem w (own σ) cs b 0 := by
 intro i x hx
 obtain ⟨arr, e, fz, h1, h2, h3, h4⟩ := h b cs hb
 have hi : i < arr.size := by have := (List.getElem?_eq_some_iff.1 hx).1; omega
 exact ⟨(h4 i x hx).1, arr.getD i undef, by rw [Nat.zero_add]; simp only [World.cell?, h1, Option.isSome_none, Bool.false_eq_true, if_false]; exact aget_of_lt hi, (h4 i x hx).2⟩
theorem Mem.of_cell {w : World} {O : Nat → Prop} {cs : List V} {b off : Nat} {cell : Nat → Value} (h1 : ∀ (i : Nat) (x : V), cs[i]? = some x → x.one = true) (hc : ∀ (i : Nat) (x : V), cs[i]? = some x → w.cell? ⟨b, off + i, none⟩ = some (cell i))
  (hr : ∀ (i : Nat) (x : V), cs[i]? = some x → Rep w O x (cell i)) : Mem w O cs b off := fun i x hx => ⟨h1 i x hx, cell i, hc i x hx, hr i x hx⟩
theorem Mem.iptr {w : World} {O : Nat → Prop} {cs : List V} {b off : Nat} (h : Mem w O cs b off) (hb : b < w.heap.size) (ho : ¬ O b) : Rep w O (.iptr cs) (.pointer (some ⟨b, off, none⟩)) := by
 refine .iptr cs b off (fun i => (w.cell? ⟨b, off + i, none⟩).getD undef) hb ho (fun i x hx => (h i x hx).1) (fun i x hx => ?_) (fun i x hx => ?_)
 ·obtain ⟨_, v, h2, _⟩ := h i x hx; simp [h2]
 ·obtain ⟨_, v, h2, h3⟩ := h i x hx; simp only [h2, Option.getD_some]; exact h3
theorem Mem.isl {w : World} {O : Nat → Prop} {xs : List V} {es b off c : Nat} {ex : Bool} (h : Mem w O (flat xs) b off) (hb : b < w.heap.size) (ho : ¬ O b) (hc : xs.length ≤ c) (hx : ex = true → c = xs.length) (he : ∀ x ∈ xs, x.cells.length = es) :
  Rep w O (.isl ex es xs) (.slice (some ⟨b, off, none⟩) xs.length c) := by
 cases hxs : xs with
 | nil => subst hxs; exact .isl0 ex es _ c (fun e => by have := hx e; simpa using this)
 | cons y ys =>
  rw [← hxs]
  refine .isl ex es xs b off c (fun i => (w.cell? ⟨b, off + i, none⟩).getD undef) (by simp [hxs]) hc hx he hb ho (fun i x hx => (h i x hx).1) (fun i x hx => ?_) (fun i x hx => ?_)
  ·obtain ⟨_, v, h2, _⟩ := h i x hx; simp [h2]
  ·obtain ⟨_, v, h2, h3⟩ := h i x hx; simp only [h2, Option.getD_some]; exact h3
theorem Rep.isl_mem {w : World} {O : Nat → Prop} {xs : List V} {es : Nat} {ex : Bool} {v : Value} (h : Rep w O (.isl ex es xs) v) (hne : xs ≠ []) :
  ∃ b off c, v = .slice (some ⟨b, off, none⟩) xs.length c ∧ xs.length ≤ c ∧ (ex = true → c = xs.length) ∧ (∀ x ∈ xs, x.cells.length = es) ∧ b < w.heap.size ∧ ¬ O b ∧ Mem w O (flat xs) b off := by
 cases h with
 | isl0 => exact absurd rfl hne
 | isl _ _ _ b off c cell _ h1 h2 h3 hb ho hone hc hr => exact ⟨b, off, c, rfl, h1, h2, h3, hb, ho, Mem.of_cell hone hc hr⟩
theorem Rep.isl_len {w : World} {O : Nat → Prop} {xs : List V} {es : Nat} {ex : Bool} {v : Value} (h : Rep w O (.isl ex es xs) v) : ∃ a c, v = .slice a xs.length c ∧ xs.length ≤ c ∧ (ex = true → c = xs.length) := by
 cases h with
 | isl0 _ _ a c h => exact ⟨a, c, rfl, Nat.zero_le _, fun e => by simpa using h e⟩
 | isl _ _ _ b off c cell _ h1 h2 h3 hb ho hone hc hr => exact ⟨_, c, rfl, h1, h2⟩
theorem flat_length {xs : List V} {es : Nat} (h : ∀ x ∈ xs, x.cells.length = es) : (flat xs).length = xs.length * es := by
 induction xs with
 | nil => simp [flat]
 | cons x xs ih =>
  have h1 := h x (List.mem_cons_self ..)
  have h2 := ih fun y hy => h y (List.mem_cons_of_mem _ hy)
  simp only [flat, List.flatMap_cons, List.length_append, List.length_cons] at h2 ⊢
  rw [h1, h2, Nat.succ_mul]; omega
theorem flat_drop {xs : List V} {es : Nat} (h : ∀ x ∈ xs, x.cells.length = es) (k : Nat) : (flat xs).drop (k * es) = flat (xs.drop k) := by
 induction k generalizing xs with
 | zero => simp
 | succ k ih =>
  cases xs with
  | nil => simp [flat]
  | cons x xs =>
   have h1 := h x (List.mem_cons_self ..)
   have : (k + 1) * es = es + k * es := by rw [Nat.succ_mul]; omega
   rw [this, ← List.drop_drop]
   simp only [flat, List.flatMap_cons, List.drop_succ_cons]
   rw [List.drop_left' h1]
   exact ih fun y hy => h y (List.mem_cons_of_mem _ hy)
theorem flat_take {xs : List V} {es : Nat} (h : ∀ x ∈ xs, x.cells.length = es) (k : Nat) : (flat xs).take (k * es) = flat (xs.take k) := by
 induction k generalizing xs with
 | zero => simp [flat]
 | succ k ih =>
  cases xs with
  | nil => simp [flat]
  | cons x xs =>
   have h1 := h x (List.mem_cons_self ..)
   have : (k + 1) * es = es + k * es := by rw [Nat.succ_mul]; omega
   rw [this]
   simp only [flat, List.flatMap_cons, List.take_succ_cons]
   rw [List.take_append, h1, List.take_of_length_le (by omega), show es + k * es - es = k * es from by omega]
   congr 1
   exact ih fun y hy => h y (List.mem_cons_of_mem _ hy)
theorem flat_at {xs : List V} {es : Nat} (h : ∀ x ∈ xs, x.cells.length = es) {k : Nat} (hk : k < xs.length) : ((flat xs).drop (k * es)).take es = (xs.getD k .undef).cells := by
 rw [flat_drop h]
 have : xs.drop k = xs[k] :: xs.drop (k + 1) := List.drop_eq_getElem_cons hk
 rw [this]
 simp only [flat, List.flatMap_cons]
 have he : xs.getD k .undef = xs[k] := by simp [List.getD, hk]
 rw [he, List.take_left' (h _ (List.getElem_mem hk))]

theorem run_load_mem {P : Program} {w : World} {O : Nat → Prop} {cs : List V} {b off : Nat} (h : Mem w O cs b off) {t : TypeId} {d : TypeDesc} (hd : P.underlying t = some d) {n : Nat} (hc : P.cellsOf t = n) (k : Nat) (hn : k + n ≤ cs.length) (h2 : isAggT P t = false → n = 1) :
  ∃ v, (loadVar t ⟨b, off + k, none⟩).run P w = .ok v w ∧ Rep w O (bif isAggT P t then .agg ((cs.drop k).take n) else cs.getD k .undef) v := by
 obtain ⟨i, hi⟩ := underlying_info hd
 cases ha : isAggT P t with
 | true =>
  let f : Nat → Value := fun j => (w.cell? ⟨b, off + k + j, none⟩).getD undef
  have hf : ∀ j, j < n → w.cell? ((⟨b, off + k, none⟩ : Addr).add j) = some (f j) := by
   intro j hj
   rw [addr_add]
   have hx : cs[k + j]? = some cs[k + j] := by simp
   obtain ⟨_, v, h2, _⟩ := h (k + j) _ hx
   rw [← Nat.add_assoc] at h2
   simp only [f, h2, Option.getD_some]
  refine ⟨.agg ((List.range n).map f).toArray, ?_, ?_⟩
  ·simp [loadVar, run_isAgg hd, ha, run_sizeOf hi, hc, run_loadCells w _ n f hf]
  ·refine .agg _ _ (by simp; omega) (fun j x hx => ?_) (fun j x hx => ?_)
   ·rw [List.getElem?_take] at hx
    split at hx
    ·rw [List.getElem?_drop] at hx; exact (h _ x hx).1
    ·simp at hx
   ·rw [List.getElem?_take] at hx
    split at hx
    ·rename_i hj
     rw [List.getElem?_drop] at hx
     obtain ⟨_, v, h2, h3⟩ := h _ x hx
     have : ((List.range n).map f).toArray.getD j undef = v := by
      rw [← Nat.add_assoc] at h2
      simp [Array.getD_eq_getD_getElem?, hj, f, h2]
     rw [this]; exact h3
    ·simp at hx
 | false =>
  have hn1 := h2 ha
  subst hn1
  have hx : cs[k]? = some (cs.getD k .undef) := by
   have : k < cs.length := by omega
   simp [List.getD, this]
  obtain ⟨_, v, h3, h4⟩ := h k _ hx
  exact ⟨v, by simp [loadVar, run_isAgg hd, ha, h3], h4⟩

end Go.Proofs.Ytdenfjbhkdhlkaa.Lg
