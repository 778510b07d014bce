/- The own logic: structs and rows that are built, structs that are compared. It holds for every program. -/
import Derived.Test.YtdenfjbhkdhlkaaLgP
set_option linter.unusedSimpArgs false
set_option linter.unusedVariables false
namespace Go.Proofs.Ytdenfjbhkdhlkaa.Lg
open Go

/-- Cells beside what they say. -/
def RepA (w : World) (O : Nat → Prop) (xs : List V) (vs : Array Value) : Prop := xs.length = vs.size ∧ ∀ (i : Nat) (x : V), xs[i]? = some x → x.one = true ∧ Rep w O x (vs.getD i undef)

theorem foldl_put (off : Nat) : ∀ (l : List Value) (k : Nat) (cs : Array Value), off + k + l.length ≤ cs.size →
  ((l.zipIdx k).foldl (fun cs (p : Value × Nat) => cs.setIfInBounds (off + p.2) p.1) cs).size = cs.size ∧
  ∀ i, ((l.zipIdx k).foldl (fun cs (p : Value × Nat) => cs.setIfInBounds (off + p.2) p.1) cs).getD i undef = if off + k ≤ i ∧ i < off + k + l.length then l.getD (i - (off + k)) undef else cs.getD i undef := by
 intro l
 induction l with
 | nil => intro k cs _; refine ⟨rfl, fun i => ?_⟩; rw [if_neg (by simp only [List.length_nil]; omega)]; rfl
 | cons v l ih =>
  intro k cs h
  simp only [List.length_cons] at h
  simp only [List.zipIdx_cons, List.foldl_cons]
  obtain ⟨h1, h2⟩ := ih (k + 1) (cs.setIfInBounds (off + k) v) (by simp; omega)
  refine ⟨by rw [h1]; simp, fun i => ?_⟩
  rw [h2]
  by_cases hi : i = off + k
  ·subst hi
   have hlt : off + k < cs.size := by omega
   rw [if_neg (by omega), if_pos (by simp only [List.length_cons]; omega)]
   simp [Array.getD_eq_getD_getElem?, hlt]
  ·by_cases hc : off + (k + 1) ≤ i ∧ i < off + (k + 1) + l.length
   ·rw [if_pos hc, if_pos (by simp only [List.length_cons]; omega)]
    have : i - (off + k) = (i - (off + (k + 1))) + 1 := by omega
    rw [this]; simp
   ·rw [if_neg hc, if_neg (by simp only [List.length_cons]; omega)]
    simp [Array.getD_eq_getD_getElem?, Array.getElem?_setIfInBounds_ne (Ne.symm hi)]

theorem put_cells (off : Nat) (vs cs : Array Value) (h : off + vs.size ≤ cs.size) :
  (vs.zipIdx.foldl (fun cs (c, j) => cs.setIfInBounds (off + j) c) cs).size = cs.size ∧
  ∀ i, (vs.zipIdx.foldl (fun cs (c, j) => cs.setIfInBounds (off + j) c) cs).getD i undef = if off ≤ i ∧ i < off + vs.size then vs.getD (i - off) undef else cs.getD i undef := by
 have := foldl_put off vs.toList 0 cs (by simpa using h)
 rw [← Array.foldl_toList, Array.toList_zipIdx]
 simpa [Array.getD_eq_getD_getElem?, List.getD] using this

theorem RepA.splice {w : World} {O : Nat → Prop} {z ys : List V} {cs vs : Array Value} {off : Nat} (h : RepA w O z cs) (h2 : RepA w O ys vs) (ho : off + ys.length ≤ z.length) :
  RepA w O (z.take off ++ ys ++ z.drop (off + ys.length)) (vs.zipIdx.foldl (fun cs (c, j) => cs.setIfInBounds (off + j) c) cs) := by
 have hle : off + vs.size ≤ cs.size := by have := h.1; have := h2.1; omega
 obtain ⟨g1, g2⟩ := put_cells off vs cs hle
 refine ⟨by rw [g1]; have := h.1; simp; omega, fun i x hx => ?_⟩
 rw [g2]
 have e1 := h2.1
 by_cases hi : off ≤ i ∧ i < off + vs.size
 ·rw [if_pos hi]
  rw [List.append_assoc, List.getElem?_append_right (by simp; omega), List.getElem?_append_left (by simp; omega)] at hx
  have hx' : ys[i - off]? = some x := by
   have : i - (z.take off).length = i - off := by rw [List.length_take]; omega
   rwa [this] at hx
  exact h2.2 _ x hx'
 ·rw [if_neg hi]
  rcases Nat.lt_or_ge i off with hlt | hge
  ·rw [List.append_assoc, List.getElem?_append_left (by simp; omega), List.getElem?_take_of_lt hlt] at hx
   exact h.2 i x hx
  ·rw [List.getElem?_append_right (by simp; omega), List.getElem?_drop] at hx
   have : off + ys.length + (i - (z.take off ++ ys).length) = i := by simp; omega
   rw [this] at hx
   exact h.2 i x hx

/-- A value's cells. -/
theorem Rep.cellsOf' {w : World} {O : Nat → Prop} {x : V} {v : Value} (h : Rep w O x v) (h1 : ∀ c ∈ x.cells, c.one = true) : x.cells.length = v.cells.size ∧ ∀ (j : Nat) (y : V), x.cells[j]? = some y → y.one = true ∧ Rep w O y (v.cells.getD j Go.undef) := by
 by_cases ha : ∃ cs, x = .agg cs
 ·obtain ⟨cs, rfl⟩ := ha
  obtain ⟨vs, rfl, hl, ho, hr⟩ := rep_agg_inv h
  exact ⟨hl, fun j y hy => ⟨ho j y hy, hr j y hy⟩⟩
 ·have hx : x.cells = [x] := by cases x <;> first | rfl | exact absurd ⟨_, rfl⟩ ha
  have hone : x.one = true := h1 x (by rw [hx]; exact List.mem_singleton.2 rfl)
  obtain ⟨e1, e2⟩ := h.cells_one hone
  rw [e1, hx]
  refine ⟨rfl, fun j y hy => ?_⟩
  cases j with
  | zero => simp at hy; subst hy; exact ⟨hone, by simpa using h⟩
  | succ j => simp at hy
theorem RepA.of_rep {w : World} {O : Nat → Prop} {x : V} {v : Value} (h : Rep w O x v) (h1 : ∀ c ∈ x.cells, c.one = true) : RepA w O x.cells v.cells := by
 obtain ⟨g1, g2⟩ := h.cellsOf' h1
 exact ⟨g1, fun i y hy => ⟨(g2 i y hy).1, (g2 i y hy).2⟩⟩


section
variable {P : Program} {Γ : St} {T : Ts} {σ τ : St} {w : World} {a : Act} {o : Oper} {i : I} {p : Prop} {x : V}

theorem fill_ok (hpre : Pre Γ T σ τ w a) {place : Nat → Option (Nat × Nat)} : ∀ (ps : List (Nat × Operand)) (qs : List (Nat × Nat × Opd)) (z : List V) (cs : Array Value), ps.length = qs.length →
  (∀ (j : Nat) (off n : Nat) (y : Opd), qs[j]? = some (off, n, y) → ∃ q, ps[j]? = some q ∧ opd q.2 = some y ∧ place q.1 = some (off, n)) → RepA w (own (cup σ τ)) z cs → fillOK (ev Γ T) z.length qs →
  ∃ cs', Instr.fill place cs (ps.map fun (q : Nat × Operand) => (q.1, a.eval q.2)) = some cs' ∧ RepA w (own (cup σ τ)) (fillV (ev Γ T) z qs) cs' := by
 intro ps
 induction ps with
 | nil =>
  intro qs z cs hl _ hr _
  have : qs = [] := List.eq_nil_of_length_eq_zero hl.symm
  subst this
  exact ⟨cs, rfl, hr⟩
 | cons q ps ih =>
  intro qs z cs hl hq hr hok
  cases qs with
  | nil => simp at hl
  | cons r qs =>
   obtain ⟨off, n, y⟩ := r
   obtain ⟨q', hq1, hq2, hq3⟩ := hq 0 off n y rfl
   simp at hq1; subst hq1
   obtain ⟨k1, k2, k3, k4⟩ := hok
   have hv := ev_rep hpre hq2
   have hra := RepA.of_rep hv k3
   have hsz : (a.eval q.2).cells.size = n := by rw [← hra.1, k1]
   have hsp := hr.splice (off := off) hra (by omega)
   rw [k1] at hsp
   obtain ⟨cs', f1, f2⟩ := ih qs (z.take off ++ (ev Γ T y).cells ++ z.drop (off + n)) _ (by simpa using hl) (fun j o' n' y' h => by
    obtain ⟨q2, g1, g2, g3⟩ := hq (j + 1) o' n' y' (by simpa using h)
    exact ⟨q2, by simpa using g1, g2, g3⟩) hsp (by
     have : (z.take off ++ (ev Γ T y).cells ++ z.drop (off + n)).length = z.length := by simp; omega
     rw [this]; exact k4)
   refine ⟨cs', ?_, f2⟩
   simp only [List.map_cons, Instr.fill, hq3, hsz]
   rw [if_neg]
   ·exact f1
   ·have h1 := hr.1
    simp; omega

theorem zero_ok {w : World} {O : Nat → Prop} {t : TypeId} {z : List V} (h : zeroOf P t = some z) : ∃ it v, P.info? t = some it ∧ it.zero = some v ∧ RepA w O z v.cells := by
 unfold zeroOf at h
 simp only [Option.bind_eq_some_iff] at h
 obtain ⟨v, ⟨it, h1, h2⟩, h3⟩ := h
 obtain ⟨g1, g2⟩ := mapM_some_get h3
 refine ⟨it, v, h1, h2, by simpa using g1.symm, fun i x hx => ?_⟩
 obtain ⟨y, hy, hf⟩ := g2 i x hx
 rw [Array.getElem?_toList] at hy
 rw [agetD hy]
 exact ⟨ofScalar_one hf, rep_ofScalar hf⟩

theorem RepA.agg {w : World} {O : Nat → Prop} {z : List V} {cs : Array Value} (h : RepA w O z cs) : Rep w O (.agg z) (.agg cs) := .agg z cs h.1 (fun i x hx => (h.2 i x hx).1) (fun i x hx => (h.2 i x hx).2)

theorem y_build (hpre : Pre Γ T σ τ w a) {t : TypeId} {ps : Array (Nat × Operand)} (ho : o.op = .build t ps) (hc : compI P o = some i) (hp : pureI σ (ev Γ T) i = some (p, x)) (hs : p) : Yields P o a w (own (cup σ τ)) x := by
 simp only [compI, ho] at hc
 split at hc
 ·rename_i fs ht
  simp only [Option.bind_eq_bind, Option.bind_eq_some_iff] at hc
  obtain ⟨qs, hqs, hc⟩ := hc
  split at hc
  ·rename_i hall
   simp only [Option.bind_eq_some_iff, Option.some.injEq] at hc
   obtain ⟨z, hz, rfl⟩ := hc
   simp only [pureI, Option.some.injEq, Prod.mk.injEq] at hp
   obtain ⟨rfl, rfl⟩ := hp
   obtain ⟨it, v, hit, hiz, hzr⟩ := zero_ok (w := w) (O := own (cup σ τ)) hz
   -- the places
   have hplaces : ∃ places, fs.toList.mapM (fun f => (P.info? f.type).map fun i => (f.offset, i.size)) = some places ∧ ∀ (j : Nat) (f : Field), fs[j]? = some f → places.toArray[j]? = some (f.offset, P.cellsOf f.type) := by
    have : ∀ l : List Field, l.all (fun f => okT P f.type) = true → ∃ places, l.mapM (fun f => (P.info? f.type).map fun i => (f.offset, i.size)) = some places ∧ ∀ (j : Nat) (f : Field), l[j]? = some f → places[j]? = some (f.offset, P.cellsOf f.type) := by
     intro l
     induction l with
     | nil => intro _; exact ⟨[], by simp, by simp⟩
     | cons f l ih =>
      intro h
      simp only [List.all_cons, Bool.and_eq_true] at h
      obtain ⟨pl, g1, g2⟩ := ih h.2
      obtain ⟨fi, hfi⟩ := okT_info h.1
      refine ⟨(f.offset, fi.size) :: pl, by simp [List.mapM_cons, hfi, g1], fun j g hg => ?_⟩
      cases j with
      | zero => simp at hg; subst hg; simp [Program.cellsOf, hfi]
      | succ j => simpa using g2 j g (by simpa using hg)
    obtain ⟨pl, g1, g2⟩ := this fs.toList hall
    exact ⟨pl, g1, fun j f hf => by simpa using g2 j f (by simpa using hf)⟩
   obtain ⟨places, hpl, hplg⟩ := hplaces
   obtain ⟨q1, q2⟩ := mapM_some_get hqs
   obtain ⟨cs', f1, f2⟩ := fill_ok hpre (place := (places.toArray[·]?)) ps.toList qs z v.cells q1 (fun j off n y h => by
    obtain ⟨q, g1, g2⟩ := q2 j _ h
    unfold partOf at g2
    split at g2
    ·rename_i f y' hf hy
     simp only [Option.some.injEq, Prod.mk.injEq] at g2
     obtain ⟨rfl, rfl, rfl⟩ := g2
     exact ⟨q, g1, hy, hplg _ f hf⟩
    ·simp at g2) hzr hs.1
   refine .same (v := .agg cs') ?_ f2.agg
   have hb : P.built t (ps.map fun (i, x) => (i, a.eval x)).toList = some cs' := by
    unfold Program.built
    simp only [hit, ht, hiz, hpl]
    rw [← f1]
    simp
   simp [execOp, ho, run_build w t _ cs' hb]
  ·simp at hc
 ·simp at hc

theorem flat_set {l : List V} {es : Nat} (h : ∀ x ∈ l, x.cells.length = es) : ∀ (i : Nat) (x : V), i < l.length → flat (l.set i x) = (flat l).take (i * es) ++ x.cells ++ (flat l).drop (i * es + es) := by
 intro i x hi
 have e1 : l.set i x = l.take i ++ x :: l.drop (i + 1) := by rw [List.set_eq_take_append_cons_drop, if_pos hi]
 rw [e1]
 have e2 : i * es + es = (i + 1) * es := by rw [Nat.succ_mul]
 rw [e2, flat_take h, flat_drop h]
 simp [flat, List.flatMap_append]
theorem rowV_props (e : Opd → V) {es n : Nat} : ∀ (ps : List (Nat × Opd)) (l : List V), l.length = n → (∀ x ∈ l, x.cells.length = es) → rowOK e es n ps →
  (rowV e l ps).length = n ∧ (∀ x ∈ rowV e l ps, x.cells.length = es) ∧ flat (rowV e l ps) = fillV e (flat l) (ps.map fun q => (q.1 * es, es, q.2)) ∧ fillOK e (n * es) (ps.map fun q => (q.1 * es, es, q.2)) := by
 intro ps
 induction ps with
 | nil => intro l h1 h2 _; exact ⟨h1, h2, rfl, trivial⟩
 | cons q ps ih =>
  intro l h1 h2 hok
  obtain ⟨i, y⟩ := q
  obtain ⟨k1, k2, k3, k4⟩ := hok
  obtain ⟨g1, g2, g3, g4⟩ := ih (l.set i (e y)) (by simpa using h1) (fun x hx => by
   rcases List.mem_or_eq_of_mem_set hx with h | h
   ·exact h2 x h
   ·subst h; exact k2) k4
  refine ⟨g1, g2, ?_, k2, ?_, k3, g4⟩
  ·simp only [rowV, List.map_cons, fillV]
   rw [g3, flat_set h2 i (e y) (by omega)]
  ·have : i * es + es = (i + 1) * es := by rw [Nat.succ_mul]
   rw [this]; exact Nat.mul_le_mul_right _ k1

theorem flat_replicate {zv : V} {es : Nat} (h : zv.cells.length = es) : ∀ (n i : Nat), i < n * es → (flat (List.replicate n zv))[i]? = zv.cells[i % es]? := by
 intro n
 induction n with
 | zero => intro i hi; simp at hi
 | succ n ih =>
  intro i hi
  simp only [List.replicate_succ, flat, List.flatMap_cons]
  rcases Nat.lt_or_ge i es with h1 | h1
  ·rw [List.getElem?_append_left (by omega), Nat.mod_eq_of_lt h1]
  ·rw [List.getElem?_append_right (by omega), h]
   have := ih (i - es) (by rw [Nat.succ_mul] at hi; omega)
   simp only [flat] at this
   rw [this]
   congr 1
   rw [Nat.mod_eq_sub_mod h1]

theorem zeroV_ok {w : World} {O : Nat → Prop} {t : TypeId} {zv : V} (h : zeroV P t = some zv) : ∃ it v, P.info? t = some it ∧ it.zero = some v ∧ Rep w O zv v := by
 unfold zeroV at h
 simp only [Option.bind_eq_some_iff] at h
 obtain ⟨v, ⟨it, h1, h2⟩, h3⟩ := h
 exact ⟨it, v, h1, h2, rep_ofValue h3⟩

theorem y_bsl (hpre : Pre Γ T σ τ w a) {t : TypeId} {n : Nat} {ps : Array (Nat × Operand)} (ho : o.op = .buildSlice t n ps) (hc : compI P o = some i) (hp : pureI σ (ev Γ T) i = some (p, x)) (hs : p) : Yields P o a w (own (cup σ τ)) x := by
 simp only [compI, ho] at hc
 split at hc
 ·rename_i e ht
  simp only [Option.bind_eq_bind, Option.bind_eq_some_iff] at hc
  obtain ⟨qs, hqs, hc⟩ := hc
  split at hc
  ·rename_i hcond
   simp only [Bool.and_eq_true, decide_eq_true_eq, bne_iff_ne, ne_eq] at hcond
   obtain ⟨⟨hok, hbig⟩, hes0⟩ := hcond
   simp only [Option.bind_eq_some_iff, Option.some.injEq] at hc
   obtain ⟨zv, hzv, rfl⟩ := hc
   simp only [pureI, Option.some.injEq, Prod.mk.injEq] at hp
   obtain ⟨rfl, rfl⟩ := hp
   obtain ⟨hrow, hzl, hz1⟩ := hs
   obtain ⟨it, v, hit, hiz, hzr⟩ := zeroV_ok (w := w) (O := own (cup σ τ)) hzv
   have hzA := RepA.of_rep hzr hz1
   have hzs : v.cells.size = P.cellsOf e := by rw [← hzA.1]; exact hzl
   obtain ⟨r1, r2, r3, r4⟩ := rowV_props (ev Γ T) qs (List.replicate n zv) (by simp) (fun x hx => by rw [List.eq_of_mem_replicate hx]; exact hzl) hrow
   have hflat : (flat (List.replicate n zv)).length = n * P.cellsOf e := by
    rw [flat_length (es := P.cellsOf e) (fun x hx => by rw [List.eq_of_mem_replicate hx]; exact hzl)]; simp
   -- the zero row
   have hzrow : RepA w (own (cup σ τ)) (flat (List.replicate n zv)) ((Array.range (n * P.cellsOf e)).map (v.cells[· % v.cells.size]!)) := by
    refine ⟨by simp [hflat], fun i x hx => ?_⟩
    have hi : i < n * P.cellsOf e := by have := (List.getElem?_eq_some_iff.1 hx).1; omega
    rw [flat_replicate hzl n i hi] at hx
    have := hzA.2 _ x hx
    have hm : i % P.cellsOf e < v.cells.size := by rw [hzs]; exact Nat.mod_lt _ (by omega)
    have he : ((Array.range (n * P.cellsOf e)).map (v.cells[· % v.cells.size]!)).getD i undef = v.cells.getD (i % P.cellsOf e) undef := by
     have hg : v.cells[i % P.cellsOf e]? = some (v.cells[i % P.cellsOf e]'hm) := Array.getElem?_eq_getElem hm
     simp [Array.getD_eq_getD_getElem?, hi, hzs, hg, getElem!_def]
    rw [he]; exact this
   obtain ⟨q1, q2⟩ := mapM_some_get hqs
   obtain ⟨cs', f1, f2⟩ := fill_ok hpre (place := fun i => some (i * P.cellsOf e, P.cellsOf e)) ps.toList (qs.map fun q => (q.1 * P.cellsOf e, P.cellsOf e, q.2)) _ _ (by simpa using q1) (fun j off n' y h => by
    simp only [List.getElem?_map, Option.map_eq_some_iff, Prod.mk.injEq] at h
    obtain ⟨qq, h1, rfl, rfl, rfl⟩ := h
    obtain ⟨q, g1, g2⟩ := q2 j _ h1
    simp only [elemOf', Option.map_eq_some_iff] at g2
    obtain ⟨y', hy', rfl⟩ := g2
    exact ⟨q, g1, hy', rfl⟩) hzrow (by rw [hflat]; exact r4)
   rw [← r3] at f2
   obtain ⟨ie, hie⟩ := okT_info hok
   rw [hit] at hie
   have hsize : (sizeOf e).run P w = .ok (P.cellsOf e) w := run_sizeOf hit w
   refine ⟨.slice (some ⟨w.heap.size, 0, none⟩) n n, { w with heap := w.heap.push (.cells cs' e) }, ?_, ⟨.inr ⟨_, rfl⟩, rfl, rfl, rfl, Nat.le_refl _⟩, ?_⟩
   ·have hfill : Instr.fill (fun i => some (i * P.cellsOf e, P.cellsOf e)) ((Array.range (n * P.cellsOf e)).map (v.cells[· % v.cells.size]!)) (ps.map fun (i, x) => (i, a.eval x)).toList = some cs' := by rw [← f1]; simp
    have hbs : (Instr.buildSlice t n (ps.map fun (i, x) => (i, a.eval x))).run P w = .ok (.slice (some ⟨w.heap.size, 0, none⟩) n n) { w with heap := w.heap.push (.cells cs' e) } := by
     unfold Instr.buildSlice
     simp only [Sem.run_bind, run_underlying ht, Result.andThen_ok, hsize]
     rw [if_neg (by omega)]
     split
     ·rename_i h0
      rw [h0] at hfill
      have hr0 : Array.range 0 = #[] := by simp
      rw [hr0] at hfill
      simp only [Array.map_empty] at hfill
      simp only [Sem.run_bind, Sem.run_pure, Result.andThen_ok, h0, hr0, Array.map_empty, hfill]
      simp [newRow, run_newObj]
     ·have hz0 : (zeroValue e).run P w = .ok v w := by simp [zeroValue, typeInfo, hit, hiz]
      simp only [Sem.run_bind, hz0, Sem.run_pure, Result.andThen_ok, hfill]
      simp [newRow, run_newObj]
    simp only [execOp, ho]
    exact run_v hbs
   ·have hnew : w.heap.size < ({ w with heap := w.heap.push (.cells cs' e) } : World).heap.size := by simp
    have hk : Keep w { w with heap := w.heap.push (.cells cs' e) } (own (cup σ τ)) (own (cup σ τ)) := Keep.push rfl
    have hm : Mem { w with heap := w.heap.push (.cells cs' e) } (own (cup σ τ)) (flat (rowV (ev Γ T) (List.replicate n zv) qs)) w.heap.size 0 := by
     intro j y hy
     obtain ⟨h1, h2⟩ := f2.2 j y hy
     have hj : j < cs'.size := by have := (List.getElem?_eq_some_iff.1 hy).1; have := f2.1; omega
     refine ⟨h1, cs'.getD j undef, ?_, h2.keep hk⟩
     rw [Nat.zero_add]
     simp only [World.cell?, heap_push_new, Option.isSome_none, Bool.false_eq_true, if_false]
     exact aget_of_lt hj
    have := hm.isl (es := P.cellsOf e) (c := n) (ex := true) hnew (fun h => by have := hpre.sim.lt h; omega) (by rw [r1]; exact Nat.le_refl _) (fun _ => r1.symm) r2
    rwa [r1] at this
  ·simp at hc
 ·simp at hc

theorem eqFields_ok (hd : 0 < 10000) {cs ds : List V} {xs ys : Array Value} {O : Nat → Prop} (hx : RepA w O cs xs) (hy : RepA w O ds ys) : ∀ (fs : List Field) (ks : List Nat) (j : Nat) (r : Bool), kindsFrom P j fs = some ks → eqK ks (cs.drop j) (ds.drop j) = some r →
  (Op.eqFields 9999 xs ys fs).run P w = .ok r w := by
 intro fs
 induction fs with
 | nil => intro ks j r hk he; simp [kindsFrom] at hk; subst hk; simp [eqK] at he; subst he; rfl
 | cons f fs ih =>
  intro ks j r hk he
  simp only [kindsFrom] at hk
  split at hk
  ·rename_i hf
   simp only [Bool.and_eq_true, bne_iff_ne, ne_eq, beq_iff_eq] at hf
   split at hk
   ·rename_i k ks' hk1 hk2
    obtain rfl := Option.some.inj hk
    have ih' := ih ks' (j + 1)
    -- the two cells
    have cell : ∀ (cs : List V) (xs : Array Value) (u : V) (rest : List V), RepA w O cs xs → cs.drop j = u :: rest → u.one = true ∧ Rep w O u (xs.getD j undef) ∧ rest = cs.drop (j + 1) ∧ xs[j]? = some (xs.getD j undef) := by
     intro cs xs u rest h hd
     have h1 : cs[j]? = some u := by
      have : (cs.drop j)[0]? = some u := by rw [hd]; rfl
      simpa using this
     have hj : j < cs.length := (List.getElem?_eq_some_iff.1 h1).1
     refine ⟨(h.2 j u h1).1, (h.2 j u h1).2, ?_, aget_of_lt (by have := h.1; omega)⟩
     have : cs.drop (j + 1) = (cs.drop j).drop 1 := by simp
     rw [this, hd]; rfl
    have go : ∀ (u v : V) (b : Bool) (ru rv : List V) (d : TypeDesc), cs.drop j = u :: ru → ds.drop j = v :: rv → P.underlying f.type = some d → (match d with | .struct _ | .array _ _ => False | _ => True) →
      (Op.equalIn 9999 f.type (xs.getD j undef) (ys.getD j undef)).run P w = .ok b w → (eqK ks' ru rv).map (b && ·) = some r → (Op.eqFields 9999 xs ys (f :: fs)).run P w = .ok r w := by
     intro u v b ru rv d hu hv hdt hnag heq hr
     obtain ⟨_, _, e1, g1⟩ := cell cs xs u ru hx hu
     obtain ⟨_, _, e2, g2⟩ := cell ds ys v rv hy hv
     subst e1 e2
     simp only [Option.map_eq_some_iff] at hr
     obtain ⟨r', hr', rfl⟩ := hr
     have hagg : isAggT P f.type = false := by unfold isAggT; rw [hdt]; cases d <;> first | rfl | exact hnag.elim
     have p1 : (part f.type xs f.offset).run P w = .ok (xs.getD j undef) w := by
      simp only [part, Sem.run_bind, run_isAgg hdt, hagg, Result.andThen_ok, Bool.false_eq_true, if_false, hf.2, g1]; rfl
     have p2 : (part f.type ys f.offset).run P w = .ok (ys.getD j undef) w := by
      simp only [part, Sem.run_bind, run_isAgg hdt, hagg, Result.andThen_ok, Bool.false_eq_true, if_false, hf.2, g2]; rfl
     simp only [Op.eqFields, ne_eq, hf.1, not_false_eq_true, if_true, Sem.run_bind, p1, p2, heq, Result.andThen_ok]
     cases b
     ·simp
     ·simp only [Bool.not_true, Bool.false_eq_true, if_false, Bool.true_and]
      exact ih' r' hk2 hr'
    unfold kindOf at hk1
    cases hcs : cs.drop j with
    | nil => rw [hcs] at he; cases k with | zero => simp [eqK] at he | succ k => cases k with | zero => simp [eqK] at he | succ k => cases k <;> simp [eqK] at he
    | cons u ru =>
     cases hds : ds.drop j with
     | nil => rw [hcs, hds] at he; unfold eqK at he; split at he <;> simp_all
     | cons v rv =>
      rw [hcs, hds] at he
      have c1 := (cell cs xs u ru hx hcs).2.1
      have c2 := (cell ds ys v rv hy hds).2.1
      split at hk1 <;> first | (simp at hk1; done) | skip
      ·rename_i kk hty
       obtain rfl := Option.some.inj hk1
       cases u <;> cases v <;> simp only [eqK, reduceCtorEq] at he
       case int.int k1 m k2 n =>
        split at he
        ·rename_i hkk
         subst hkk
         refine go _ _ (m == n) ru rv _ hcs hds hty trivial ?_ he
         rw [rep_int_inv c1, rep_int_inv c2]
         exact run_equalIn_int w 9998 _ k1 kk m n hty
        ·simp at he
      ·rename_i hty
       obtain rfl := Option.some.inj hk1
       cases u <;> cases v <;> simp only [eqK, reduceCtorEq] at he
       case bool.bool m n =>
        refine go _ _ (m == n) ru rv _ hcs hds hty trivial ?_ he
        rw [rep_bool_inv c1, rep_bool_inv c2]
        exact run_equalIn_bool w 9998 _ m n hty
      ·rename_i hty
       obtain rfl := Option.some.inj hk1
       cases u <;> cases v <;> simp only [eqK, reduceCtorEq] at he
       case str.str m n =>
        refine go _ _ (m == n) ru rv _ hcs hds hty trivial ?_ he
        rw [rep_str_inv c1, rep_str_inv c2]
        have := run_equalIn_string (P := P) w 9998 f.type ⟨m.toArray⟩ ⟨n.toArray⟩ hty
        rwa [list_of_bytes, list_of_bytes] at this
   ·simp at hk
  ·simp at hk

theorem y_eqa (hpre : Pre Γ T σ τ w a) {op : BinOp} {t t' : TypeId} {y z : Operand} {neg : Bool} {ks : List Nat} {u v : Opd} (ho : o.op = .binOp op t y z t') (hc : compI P o = some (.eqa neg ks u v)) (hp : pureI σ (ev Γ T) (.eqa neg ks u v) = some (p, x)) : Yields P o a w (own (cup σ τ)) x := by
 have hinv : op = (if neg then .neq else .eql) ∧ ∃ fs, P.underlying t = some (.struct fs) ∧ P.stoodInHeld t = false ∧ P.eqGuardType P.depth t = false ∧ kindsFrom P 0 fs.toList = some ks ∧ opd y = some u ∧ opd z = some v := by
  simp only [compI, ho] at hc
  split at hc <;> first | (rename_i fs ht) | skip
  ·split at hc
   ·rename_i h1
    simp only [Bool.and_eq_true, Bool.not_eq_true'] at h1
    simp only [Option.bind_eq_bind, Option.bind_eq_some_iff, Option.some.injEq, I.eqa.injEq] at hc
    obtain ⟨ks1, g1, y1, hy, z1, hz, rfl, rfl, rfl, rfl⟩ := hc
    exact ⟨rfl, fs, ht, h1.1, h1.2, g1, hy, hz⟩
   ·simp at hc
  ·split at hc
   ·rename_i h1
    simp only [Bool.and_eq_true, Bool.not_eq_true'] at h1
    simp only [Option.bind_eq_bind, Option.bind_eq_some_iff, Option.some.injEq, I.eqa.injEq] at hc
    obtain ⟨ks1, g1, y1, hy, z1, hz, rfl, rfl, rfl, rfl⟩ := hc
    exact ⟨rfl, fs, ht, h1.1, h1.2, g1, hy, hz⟩
   ·simp at hc
  all_goals (exfalso; first
   | (simp only [Option.bind_eq_bind, Option.bind_eq_some_iff, Option.some.injEq, reduceCtorEq, and_false, exists_false] at hc; done)
   | (split at hc <;> first | (simp at hc; done) | (simp only [Option.map_eq_some_iff, reduceCtorEq, and_false, exists_false] at hc; done))
   | (simp at hc; done))
 obtain ⟨hop, fs, ht, hst, hgt, hks, hy, hz⟩ := hinv
 have h1 := ev_rep hpre hy
 have h2 := ev_rep hpre hz
 simp only [pureI] at hp
 split at hp
 ·rename_i c d hc1 hd1
  split at hp
  ·rename_i r hr
   simp only [Option.some.injEq, Prod.mk.injEq] at hp
   obtain ⟨_, rfl⟩ := hp
   rw [hc1] at h1; rw [hd1] at h2
   obtain ⟨xs, e1, l1, o1, r1⟩ := rep_agg_inv h1
   obtain ⟨ys, e2, l2, o2, r2⟩ := rep_agg_inv h2
   have hfo : P.underlying t = some (.struct (P.fieldsOf t)) := by unfold Program.fieldsOf; rw [ht]
   have hfo2 : P.fieldsOf t = fs := by unfold Program.fieldsOf; rw [ht]
   have hrun := eqFields_ok (P := P) (by omega) (O := own (cup σ τ)) (cs := c) (ds := d) (xs := xs) (ys := ys) ⟨l1, fun i x hx => ⟨o1 i x hx, r1 i x hx⟩⟩ ⟨l2, fun i x hx => ⟨o2 i x hx, r2 i x hx⟩⟩ fs.toList ks 0 r hks (by simpa using hr)
   have heq := run_equalIn_struct (P := P) w 9999 t xs ys hfo hst
   rw [hfo2] at heq
   have hg : (eqGuard op t y z (.agg xs) (.agg ys)).run P w = .ok () w := run_eqGuard_agg w op t y z xs ys hgt
   refine .same (v := .bool (bif neg then !r else r)) ?_ (.bool _)
   cases neg <;> simp only [Bool.false_eq_true, if_false, if_true] at hop <;> subst hop
   ·have := run_eql_struct (P := P) w t xs ys
    rw [heq, hrun] at this
    simp [execOp, ho, e1, e2, hg, this]
   ·have := run_neq_struct (P := P) w t xs ys
    rw [heq, hrun] at this
    simp [execOp, ho, e1, e2, hg, this]
  ·simp at hp
 ·simp at hp

/-- All pure instructions. -/
theorem pure_all (hpre : Pre Γ T σ τ w a) (hc : compI P o = some i) (hp : pureI σ (ev Γ T) i = some (p, x)) (hs : p) : Yields P o a w (own (cup σ τ)) x := by
 by_cases h1 : ∃ neg ks u v, i = .eqa neg ks u v
 ·obtain ⟨neg, ks, u, v, rfl⟩ := h1
  have hop : ∃ op t y z t', o.op = .binOp op t y z t' := by
   cases ho : o.op with
   | binOp op t y z t' => exact ⟨op, t, y, z, t', rfl⟩
   | _ => exfalso; simp only [compI, ho] at hc; (repeat' split at hc) <;> first | (simp at hc; done) | (simp only [Option.bind_eq_bind, Option.bind_eq_some_iff] at hc; obtain ⟨fd, _, hc⟩ := hc; split at hc <;> first | (simp at hc; done) | (simp only [Option.bind_eq_some_iff, Option.some.injEq, reduceCtorEq, and_false, exists_false] at hc; done)) | (simp only [Option.map_eq_some_iff, Option.bind_eq_bind, Option.bind_eq_some_iff, Option.some.injEq, reduceCtorEq, and_false, exists_false] at hc; done) | (simp_all; done)
  obtain ⟨op, t, y, z, t', ho⟩ := hop
  exact y_eqa hpre ho hc hp
 ·by_cases h2 : ∃ z ps, i = .build z ps
  ·obtain ⟨z, ps, rfl⟩ := h2
   have hop : ∃ t ps, o.op = .build t ps := by
    cases ho : o.op with
    | build t ps => exact ⟨t, ps, rfl⟩
    | _ => exfalso; simp only [compI, ho] at hc; (repeat' split at hc) <;> first | (simp at hc; done) | (simp only [Option.bind_eq_bind, Option.bind_eq_some_iff] at hc; obtain ⟨fd, _, hc⟩ := hc; split at hc <;> first | (simp at hc; done) | (simp only [Option.bind_eq_some_iff, Option.some.injEq, reduceCtorEq, and_false, exists_false] at hc; done)) | (simp only [Option.map_eq_some_iff, Option.bind_eq_bind, Option.bind_eq_some_iff, Option.some.injEq, reduceCtorEq, and_false, exists_false] at hc; done) | (simp_all; done)
   obtain ⟨t, ps', ho⟩ := hop
   exact y_build hpre ho hc hp hs
  ·by_cases h3 : ∃ es n zv ps, i = .bsl es n zv ps
   ·obtain ⟨es, n, zv, ps, rfl⟩ := h3
    have hop : ∃ t n ps, o.op = .buildSlice t n ps := by
     cases ho : o.op with
     | buildSlice t n ps => exact ⟨t, n, ps, rfl⟩
     | _ => exfalso; simp only [compI, ho] at hc; (repeat' split at hc) <;> first | (simp at hc; done) | (simp only [Option.bind_eq_bind, Option.bind_eq_some_iff] at hc; obtain ⟨fd, _, hc⟩ := hc; split at hc <;> first | (simp at hc; done) | (simp only [Option.bind_eq_some_iff, Option.some.injEq, reduceCtorEq, and_false, exists_false] at hc; done)) | (simp only [Option.map_eq_some_iff, Option.bind_eq_bind, Option.bind_eq_some_iff, Option.some.injEq, reduceCtorEq, and_false, exists_false] at hc; done) | (simp_all; done)
    obtain ⟨t, n', ps', ho⟩ := hop
    exact y_bsl hpre ho hc hp hs
   ·exact pure_ok hpre hc hp hs (fun neg ks u v h => h1 ⟨neg, ks, u, v, h⟩) (fun z ps h => h2 ⟨z, ps, h⟩) (fun es n zv ps h => h3 ⟨es, n, zv, ps, h⟩)

theorem InsOK.pure {G : V → St → Prop} (hp : pureI σ (ev Γ T) i = some (p, x)) (hs : p) (hG : G x σ) : InsOK P Γ i T σ G :=
 fun _ hc => Yields.op (fun _ _ _ hpre => pure_all hpre hc hp hs) hG

end
end Go.Proofs.Ytdenfjbhkdhlkaa.Lg
