/- The own logic, part H: instructions that write or make memory, calls, and a function's end. It holds for every program. -/
import Derived.Test.YtdenfjbhkdhlkaaLgQ
set_option linter.unusedSimpArgs false
set_option linter.unusedVariables false
namespace Go.Proofs.Ytdenfjbhkdhlkaa.Lg
open Go

section
variable {P : Program} {Γ : St}

/-- Cells that are written one behind the other. -/
def sets : List V → Nat → List V → List V
 | cs, _, [] => cs
 | cs, k, x :: r => sets (cs.set k x) (k + 1) r
theorem sets_length (xs : List V) : ∀ (cs : List V) (k : Nat), (sets cs k xs).length = cs.length := by
 induction xs with
 | nil => intro cs k; rfl
 | cons x r ih => intro cs k; simp [sets, ih]

theorem setCell_heap {w : World} {b o : Nat} {v : Value} {arr : Array Value} {e : TypeId} {fz : Nat × Nat} (hb : w.heap[b]? = some (.cells arr e fz)) :
  (w.setCell ⟨b, o, none⟩ v).heap[b]? = some (.cells (arr.setIfInBounds o v) e fz) ∧ (∀ n, n ≠ b → (w.setCell ⟨b, o, none⟩ v).heap[n]? = w.heap[n]?) ∧ (w.setCell ⟨b, o, none⟩ v).heap.size = w.heap.size := by
 refine ⟨?_, fun n hn => ?_, by simp⟩
 ·simp [World.setCell, Array.getElem?_modify, hb]
 ·simp [World.setCell, Array.getElem?_modify, Ne.symm hn]

theorem run_store_sim {σ : St} {w : World} {b o : Nat} {cs : List V} {x : V} {v : Value} (h : Sim σ w) (hb : σ b = some cs) (ho : o < cs.length) (h1 : x.one = true) (hr : Rep w (own σ) x v) :
  ∃ w', (store ⟨b, o, none⟩ v).run P w = .ok () w' ∧ Sim (upd σ b (cs.set o x)) w' ∧ Keep w w' (own σ) (own (upd σ b (cs.set o x))) := by
 obtain ⟨arr, e, fz, g1, g2, g3, g4⟩ := h b cs hb
 have hlt : o < arr.size := by omega
 have hcell : w.cell? ⟨b, o, none⟩ = some (arr.getD o undef) := by simp only [World.cell?, g1, Option.isSome_none, Bool.false_eq_true, if_false]; exact aget_of_lt hlt
 have hfz : w.frozen? ⟨b, o, none⟩ = false := by
  have := g2 o hlt
  simp only [World.frozen?, g1]
  simpa using this
 obtain ⟨k1, k2, k3⟩ := setCell_heap (o := o) (v := v) g1
 refine ⟨w.setCell ⟨b, o, none⟩ v, ?_, ?_⟩
 ·rw [run_store P w _ v _ (hr.oneCell h1), hcell]; simp [hfz]
 ·refine Sim.write h hb g1 k2 k1 k3 (by simp) (by simpa using g3) (fun i y hy => ?_)
  rw [List.getElem?_set] at hy
  split at hy
  ·rename_i he; subst he
   simp only [ho, if_true, Option.some.injEq] at hy
   subst hy
   refine ⟨h1, ?_⟩
   have : (arr.setIfInBounds o v).getD o undef = v := by simp [Array.getD_eq_getD_getElem?, hlt]
   rw [this]; exact hr
  ·rename_i he
   refine ⟨(g4 i y hy).1, ?_⟩
   have : (arr.setIfInBounds o v).getD i undef = arr.getD i undef := by simp [Array.getD_eq_getD_getElem?, Array.getElem?_setIfInBounds_ne he]
   rw [this]; exact (g4 i y hy).2

theorem run_storeCells_sim {b off : Nat} : ∀ (xs : List V) (vs : List Value) (i : Nat) (σ : St) (w : World) (cs : List V), Sim σ w → σ b = some cs → xs.length = vs.length → (∀ (j : Nat) (x : V), xs[j]? = some x → x.one = true ∧ Rep w (own σ) x (vs.getD j undef)) → off + i + xs.length ≤ cs.length →
  ∃ w', (storeCells ⟨b, off, none⟩ vs i).run P w = .ok () w' ∧ Sim (upd σ b (sets cs (off + i) xs)) w' ∧ Keep w w' (own σ) (own (upd σ b (sets cs (off + i) xs))) := by
 intro xs
 induction xs with
 | nil =>
  intro vs i σ w cs h hb hl _ _
  have : vs = [] := List.eq_nil_of_length_eq_zero hl.symm
  subst this
  refine ⟨w, by simp [storeCells], ?_⟩
  simp only [sets, upd_self σ hb]
  exact ⟨h, .refl _ _⟩
 | cons x r ih =>
  intro vs i σ w cs h hb hl hr hn
  cases vs with
  | nil => simp at hl
  | cons v vs =>
   obtain ⟨h1, h2⟩ := hr 0 x rfl
   simp only [List.length_cons] at hn hl
   obtain ⟨w1, s1, s2, s3⟩ := run_store_sim (P := P) (o := off + i) h hb (by omega) h1 (by simpa using h2)
   obtain ⟨w2, t1, t2, t3⟩ := ih vs (i + 1) (upd σ b (cs.set (off + i) x)) w1 (cs.set (off + i) x) s2 (upd_same _ _ _) (by omega) (fun j y hy => by
    obtain ⟨q1, q2⟩ := hr (j + 1) y (by simpa using hy)
    exact ⟨q1, by simpa using q2.keep s3⟩) (by simp; omega)
   rw [upd_upd] at t2 t3
   refine ⟨w2, ?_, t2, s3.trans t3⟩
   simp [storeCells, addr_add, s1, t1]

theorem inv_store {o : Oper} {n : Nat} {ad y : Opd} (hc : compI P o = some (.store n ad y)) : ∃ t u v, o.op = .store t u v ∧ okT P t = true ∧ n = P.cellsOf t ∧ opd u = some ad ∧ opd v = some y := by
 cases ho : o.op with
 | store t u v =>
  simp only [compI, ho] at hc
  split at hc
  ·rename_i hok
   simp only [Option.bind_eq_bind, Option.bind_eq_some_iff, Option.some.injEq, I.store.injEq] at hc
   obtain ⟨a1, h1, b1, h2, rfl, rfl, rfl⟩ := hc
   exact ⟨t, u, v, rfl, hok, rfl, h1, h2⟩
  ·simp at hc
 | _ => exfalso; simp only [compI, ho] at hc; (repeat' split at hc) <;> first | (simp at hc; done) | (simp only [Option.bind_eq_bind, Option.bind_eq_some_iff] at hc; obtain ⟨fd, _, hc⟩ := hc; split at hc <;> first | (simp at hc; done) | (simp only [Option.bind_eq_some_iff, Option.some.injEq, reduceCtorEq, and_false, exists_false] at hc; done)) | (simp only [Option.map_eq_some_iff, Option.bind_eq_bind, Option.bind_eq_some_iff, Option.some.injEq, reduceCtorEq, and_false, exists_false] at hc; done) | (simp_all; done)

theorem InsOK.store {n : Nat} {ad y : Opd} {T : Ts} {σ : St} {G : V → St → Prop} {b off : Nat} {cs : List V} (ha : ev Γ T ad = .ptr b off) (hb : σ b = some cs) (hn : (ev Γ T y).cells.length = n) (h1 : ∀ c ∈ (ev Γ T y).cells, c.one = true)
  (hl : off + n ≤ cs.length) (hG : G .undef (upd σ b (sets cs off (ev Γ T y).cells))) : InsOK P Γ (.store n ad y) T σ G := by
 intro o hc τ w a hpre
 obtain ⟨t, u, v, ho, hok, rfl, hu, hv⟩ := inv_store hc
 obtain ⟨it, hit⟩ := okT_info hok
 have r1 := ev_rep hpre hu
 have r2 := ev_rep hpre hv
 rw [ha] at r1
 have e1 := rep_ptr_inv r1
 obtain ⟨l1, l2⟩ := r2.cellsOf' h1
 obtain ⟨w', s1, s2, s3⟩ := run_storeCells_sim (P := P) (b := b) (off := off) (ev Γ T y).cells (a.eval v).cells.toList 0 (cup σ τ) w cs hpre.sim (cup_of_some hb) (by simpa using l1) (fun j x hx => by
  obtain ⟨g1, g2⟩ := l2 j x hx
  exact ⟨g1, by simpa [List.getD, Array.getD_eq_getD_getElem?] using g2⟩) (by omega)
 rw [Nat.add_zero, ← cup_upd] at s2 s3
 unfold Oper.wp
 have hrun : (execOp a.eval o).run P w = .ok .skip w' := by
  have : (storeVar t ⟨b, off, none⟩ (a.eval v)).run P w = .ok () w' := by
   simp only [storeVar, Sem.run_bind, run_sizeOf hit, Result.andThen_ok]
   rw [if_neg (by rw [← l1, hn]; simp)]
   exact s1
  simp [execOp, ho, Instr.storeAt, e1, Instr.sureAddr, this]
 rw [hrun]
 exact ⟨.undef, undef, _, rfl, hG, disj_upd hpre.dj (hpre.dj.other hb), s2, .undef _, s3⟩

theorem inv_alloc {o : Oper} {z : List V} (hc : compI P o = some (.alloc z)) : ∃ e, o.op = .alloc e ∧ zeroOf P e = some z := by
 cases ho : o.op with
 | alloc e =>
  simp only [compI, ho, Option.map_eq_some_iff, I.alloc.injEq] at hc
  obtain ⟨z1, h1, rfl⟩ := hc
  exact ⟨e, rfl, h1⟩
 | _ => exfalso; simp only [compI, ho] at hc; (repeat' split at hc) <;> first | (simp at hc; done) | (simp only [Option.bind_eq_bind, Option.bind_eq_some_iff] at hc; obtain ⟨fd, _, hc⟩ := hc; split at hc <;> first | (simp at hc; done) | (simp only [Option.bind_eq_some_iff, Option.some.injEq, reduceCtorEq, and_false, exists_false] at hc; done)) | (simp only [Option.map_eq_some_iff, Option.bind_eq_bind, Option.bind_eq_some_iff, Option.some.injEq, reduceCtorEq, and_false, exists_false] at hc; done) | (simp_all; done)

theorem InsOK.alloc {z : List V} {T : Ts} {σ : St} {G : V → St → Prop} (hG : ∀ b, σ b = none → G (.ptr b 0) (upd σ b z)) : InsOK P Γ (.alloc z) T σ G := by
 intro o hc τ w a hpre
 obtain ⟨e, ho, hz⟩ := inv_alloc hc
 obtain ⟨it, v, hit, hiz, hzr⟩ := zero_ok (w := w) (O := own (cup σ τ)) hz
 have hfr := hpre.sim.fresh
 have hσ : σ w.heap.size = none := by
  cases hs : σ w.heap.size with
  | none => rfl
  | some cs => rw [cup_of_some hs] at hfr; cases hfr
 have hτ : τ w.heap.size = none := by simpa [cup, hσ] using hfr
 unfold Oper.wp
 have hrun : (execOp a.eval o).run P w = .ok (.value (.pointer (some ⟨w.heap.size, 0, none⟩))) { w with heap := w.heap.push (.cells v.cells e) } := by
  simp only [execOp, ho]
  refine run_v ?_
  have hz : (zeroValue e).run P w = .ok v w := by simp [zeroValue, typeInfo, hit, hiz]
  simp only [Instr.alloc, Sem.run_bind, hz, Result.andThen_ok]
  simp [newVar, newRow]
 rw [hrun]
 obtain ⟨s1, s2⟩ := Sim.new (w' := { w with heap := w.heap.push (.cells v.cells e) }) hpre.sim rfl (by rw [hzr.1]; exact Nat.le_refl _) hzr.2
 rw [← cup_upd] at s1 s2
 exact ⟨.ptr w.heap.size 0, _, _, rfl, hG _ hσ, disj_upd hpre.dj hτ, s1, .ptr _ _, s2⟩

theorem inv_box {o : Oper} {n : Nat} {y : Opd} (hc : compI P o = some (.box n y)) : ∃ e u, o.op = .box e u ∧ opd u = some y := by
 cases ho : o.op with
 | box e u =>
  simp only [compI, ho] at hc
  split at hc
  ·simp only [Option.map_eq_some_iff, I.box.injEq] at hc
   obtain ⟨z1, h1, _, rfl⟩ := hc
   exact ⟨e, u, rfl, h1⟩
  ·simp at hc
 | _ => exfalso; simp only [compI, ho] at hc; (repeat' split at hc) <;> first | (simp at hc; done) | (simp only [Option.bind_eq_bind, Option.bind_eq_some_iff] at hc; obtain ⟨fd, _, hc⟩ := hc; split at hc <;> first | (simp at hc; done) | (simp only [Option.bind_eq_some_iff, Option.some.injEq, reduceCtorEq, and_false, exists_false] at hc; done)) | (simp only [Option.map_eq_some_iff, Option.bind_eq_bind, Option.bind_eq_some_iff, Option.some.injEq, reduceCtorEq, and_false, exists_false] at hc; done) | (simp_all; done)

theorem InsOK.box {n : Nat} {y : Opd} {T : Ts} {σ : St} {G : V → St → Prop} (h1 : ∀ c ∈ (ev Γ T y).cells, c.one = true) (hG : ∀ b, σ b = none → G (.ptr b 0) (upd σ b (ev Γ T y).cells)) : InsOK P Γ (.box n y) T σ G := by
 intro o hc τ w a hpre
 obtain ⟨e, u, ho, hu⟩ := inv_box hc
 have r1 := ev_rep hpre hu
 have hA := RepA.of_rep r1 h1
 have hfr := hpre.sim.fresh
 have hσ : σ w.heap.size = none := by
  cases hs : σ w.heap.size with
  | none => rfl
  | some cs => rw [cup_of_some hs] at hfr; cases hfr
 have hτ : τ w.heap.size = none := by simpa [cup, hσ] using hfr
 unfold Oper.wp
 have hrun : (execOp a.eval o).run P w = .ok (.value (.pointer (some ⟨w.heap.size, 0, none⟩))) { w with heap := w.heap.push (.cells (a.eval u).cells e) } := by
  simp [execOp, ho, Instr.box, newVar, newRow]
 rw [hrun]
 obtain ⟨s1, s2⟩ := Sim.new (w' := { w with heap := w.heap.push (.cells (a.eval u).cells e) }) hpre.sim rfl (by rw [hA.1]; exact Nat.le_refl _) hA.2
 rw [← cup_upd] at s1 s2
 exact ⟨.ptr w.heap.size 0, _, _, rfl, hG _ hσ, disj_upd hpre.dj hτ, s1, .ptr _ _, s2⟩

theorem inv_call {o : Oper} {f : Opd} {args : List Opd} (hc : compI P o = some (.call f args)) : ∃ c u, o.op = .call c ∧ c.callee = .value u ∧ opd u = some f ∧ opds c.args = some args := by
 cases ho : o.op with
 | call c =>
  obtain ⟨callee, as, tys⟩ := c
  simp only [compI, ho] at hc
  cases callee with
  | value u =>
   simp only [Option.bind_eq_bind, Option.bind_eq_some_iff, Option.some.injEq, I.call.injEq] at hc
   obtain ⟨f1, h1, as1, h2, rfl, rfl⟩ := hc
   exact ⟨_, u, rfl, rfl, h1, h2⟩
  | invoke r m => simp at hc
  | builtin b => exfalso; cases b <;> simp only [reduceCtorEq] at hc <;> (repeat' split at hc) <;> first | (simp at hc; done) | (simp only [Option.map_eq_some_iff, Option.bind_eq_bind, Option.bind_eq_some_iff, Option.some.injEq, reduceCtorEq, and_false, exists_false] at hc; done)
 | _ => exfalso; simp only [compI, ho] at hc; (repeat' split at hc) <;> first | (simp at hc; done) | (simp only [Option.bind_eq_bind, Option.bind_eq_some_iff] at hc; obtain ⟨fd, _, hc⟩ := hc; split at hc <;> first | (simp at hc; done) | (simp only [Option.bind_eq_some_iff, Option.some.injEq, reduceCtorEq, and_false, exists_false] at hc; done)) | (simp only [Option.map_eq_some_iff, Option.bind_eq_bind, Option.bind_eq_some_iff, Option.some.injEq, reduceCtorEq, and_false, exists_false] at hc; done) | (simp_all; done)

theorem getD_append_left {xs ys : Array Value} {i : Nat} (h : i < xs.size) : (xs ++ ys).getD i undef = xs.getD i undef := by
 simp [Array.getD_eq_getD_getElem?, Array.getElem?_append_left h]
theorem getD_append_right {xs ys : Array Value} {i : Nat} (h : xs.size ≤ i) : (xs ++ ys).getD i undef = ys.getD (i - xs.size) undef := by
 simp [Array.getD_eq_getD_getElem?, Array.getElem?_append_right h]

theorem InsOK.call {f : Opd} {args : List Opd} {T : Ts} {σ : St} {G : V → St → Prop} {g : FuncId} {caps : List V} (hf : ev Γ T f = .fn g caps) (h : ACalls P Γ g (args.map (ev Γ T) ++ caps) σ G) : InsOK P Γ (.call f args) T σ G := by
 intro o hc τ w a hpre
 obtain ⟨c, u, ho, hcal, hu, has⟩ := inv_call hc
 have r1 := ev_rep hpre hu
 rw [hf] at r1
 obtain ⟨l1, l2⟩ := opds_rep hpre has
 generalize hv : a.eval u = v at r1
 cases r1 with
 | fn _ _ vs hl hr =>
  unfold Oper.wp
  have hrun : (execOp a.eval o).run P w = .ok (.enter g (c.args.map a.eval ++ vs)) w := by
   simp [execOp, ho, resolve, hcal, hv, Deferred.ofValue, invoke, run_callFunc h.1]
  rw [hrun]
  refine (h.2 τ w (c.args.map a.eval ++ vs) hpre.dj hpre.sim hpre.glob ⟨by simp [l1, hl], fun i x hx => ?_⟩).mono ?_
  ·rcases Nat.lt_or_ge i (args.map (ev Γ T)).length with h1 | h1
   ·rw [List.getElem?_append_left h1] at hx
    rw [getD_append_left (by simp at h1 ⊢; omega)]
    exact l2 i x hx
   ·rw [List.getElem?_append_right h1] at hx
    rw [getD_append_right (by simp at h1 ⊢; omega)]
    have : i - (c.args.map a.eval).size = i - (args.map (ev Γ T)).length := by simp [l1]
    rw [this]; exact hr _ x hx
  ·rintro e w' ⟨r, v', σ', rfl, hQ, hpost⟩
   exact ⟨r, v', σ', rfl, hQ, hpost⟩

/-- What is given up: what stands in blocks that are no longer owned can be told as values that stay. -/
inductive Frz (σ σ' : St) : V → V → Prop
 | refl (v : V) : Frz σ σ' v v
 | isl (ex : Bool) (es : Nat) (xs : List V) : Frz σ σ' (.isl ex es xs) (.isl false es xs)
 | isl0 (ex ex2 : Bool) (es es' : Nat) : (ex2 = true → ex = true) → Frz σ σ' (.isl ex es []) (.isl ex2 es' [])
 | msl (b es off len cap : Nat) (cs : List V) (xs : List V) : σ b = some cs → σ' b = none → off + len * es ≤ cs.length → xs.length = len → (∀ x ∈ xs, x.cells.length = es) → (flat xs).length = len * es →
   (∀ (i : Nat) (x : V), (flat xs)[i]? = some x → x.one = true) → (∀ (i : Nat) (x y : V), cs[off + i]? = some y → (flat xs)[i]? = some x → Frz σ σ' y x) → Frz σ σ' (.msl b es off len cap) (.isl false es xs)
 | agg (cs ds : List V) : cs.length = ds.length → (∀ (i : Nat) (x : V), ds[i]? = some x → x.one = true) → (∀ (i : Nat) (x y : V), cs[i]? = some y → ds[i]? = some x → Frz σ σ' y x) → Frz σ σ' (.agg cs) (.agg ds)
 | tup (cs ds : List V) : cs.length = ds.length → (∀ (i : Nat) (x y : V), cs[i]? = some y → ds[i]? = some x → Frz σ σ' y x) → Frz σ σ' (.tup cs) (.tup ds)

theorem Frz.rep {σ σ' τ : St} {w : World} (hs : Sim (cup σ τ) w) (hd : disj σ τ) (hl : ∀ b cs, σ' b = some cs → σ b = some cs) {x y : V} (h : Frz σ σ' x y) : ∀ {v : Value}, Rep w (own (cup σ τ)) x v → Rep w (own (cup σ' τ)) y v := by
 have ho : ∀ b, own (cup σ' τ) b → own (cup σ τ) b := by
  intro b hb
  unfold own cup at *
  cases h1 : σ' b with
  | none => rw [h1] at hb; cases h2 : σ b <;> simp_all
  | some cs => simp [hl b cs h1]
 induction h with
 | refl v => intro u hr; exact hr.less ho
 | isl ex es xs =>
  intro u hr
  have hr := hr.less ho
  cases xs with
  | nil => obtain ⟨a, c, rfl, _, _⟩ := hr.isl_len; exact .isl0 _ _ _ _ (fun h => by cases h)
  | cons x xs =>
   obtain ⟨b, off, c, rfl, h1, h2, h3, h4, h5, h6⟩ := hr.isl_mem (by simp)
   exact h6.isl h4 h5 h1 (fun h => by cases h) h3
 | isl0 ex ex2 es es' hx =>
  intro u hr
  obtain ⟨a, c, rfl, _, h2⟩ := hr.isl_len
  exact .isl0 _ _ _ _ (fun h => by simpa using h2 (hx h))
 | msl b es off len cap cs xs hb hb' hlen hx he hfl hone _ ih =>
  intro u hr
  obtain ⟨arr, e, fz, rfl, h1, h2, h3⟩ := rep_msl_inv hr
  have hm := (hs.mem (cup_of_some (τ := τ) hb))
  have hno : ¬ own (cup σ' τ) b := by
   unfold own cup; rw [hb']; simp [hd.other hb]
  subst hx
  have hm2 : Mem w (own (cup σ' τ)) (flat xs) b off := by
   intro i x hxi
   have hi : i < (flat xs).length := (List.getElem?_eq_some_iff.1 hxi).1
   have hlt : off + i < cs.length := by omega
   have hg : cs[off + i]? = some cs[off + i] := by simp [hlt]
   obtain ⟨_, v, g2, g3⟩ := hm (off + i) _ hg
   exact ⟨hone i x hxi, v, by simpa using g2, ih i x _ hg hxi g3⟩
  exact hm2.isl (lt_of_get h1) hno h3 (fun h => by cases h) he
 | agg cs ds hl2 hone _ ih =>
  intro u hr
  obtain ⟨vs, rfl, h1, h2, h3⟩ := rep_agg_inv hr
  refine .agg ds vs (by omega) hone (fun i x hx => ?_)
  have hi : i < cs.length := by have := (List.getElem?_eq_some_iff.1 hx).1; omega
  have hg : cs[i]? = some cs[i] := by simp [hi]
  exact ih i x _ hg hx (h3 i _ hg)
 | tup cs ds hl2 _ ih =>
  intro u hr
  cases hr with
  | tup _ vs h1 h3 =>
   refine .tup ds vs (by omega) (fun i x hx => ?_)
   have hi : i < cs.length := by have := (List.getElem?_eq_some_iff.1 hx).1; omega
   have hg : cs[i]? = some cs[i] := by simp [hi]
   exact ih i x _ hg hx (h3 i _ hg)

theorem disj.symm_none {σ τ : St} (h : disj σ τ) {b : Nat} {cs : List V} (hb : τ b = some cs) : σ b = none := (h b).resolve_right (by simp [hb])

/-- The end of a function: its results, told as what stays of them. -/
def Conv (σ : St) (v : V) (σ' : St) (v' : V) : Prop := (∀ b cs, σ' b = some cs → σ b = some cs) ∧ Frz σ σ' v v'
theorem Conv.refl (σ : St) (v : V) : Conv σ v σ v := ⟨fun _ _ h => h, .refl v⟩
theorem Conv.drop {σ σ' : St} (v : V) (h : ∀ b cs, σ' b = some cs → σ b = some cs) : Conv σ v σ' v := ⟨h, .refl v⟩

def resV1 (T : Ts) (σ : St) : RV → Option V
 | .t n => some (look T n)
 | .cell a ag n => match look T a with
  | .ptr b off => match σ b with
   | some cs => if off + n ≤ cs.length ∧ (ag = false → n = 1) then some (bif ag then .agg ((cs.drop off).take n) else cs.getD off .undef) else none
   | none => none
  | _ => none
def resV (rs : List RV) (T : Ts) (σ : St) : Option V :=
 match rs with
 | [r] => resV1 T σ r
 | rs => (rs.mapM (resV1 T σ)).map .tup

theorem compF_inv {f : FuncId} {cf : CF} (h : compF P f = some cf) : ∃ fn b, P.funcs[f]? = some fn ∧ fn.body = some b ∧ compC P fn.ntmps b = some cf.body ∧ fn.params.size + fn.nfree ≤ fn.ntmps ∧ cf.np = fn.params.size + fn.nfree ∧
  cf.rs = fn.results.toList.map (rvOf P) ∧ fn.results.toList.all (rvOK P) = true ∧ cf.n = fn.ntmps ∧ callable P f = true := by
 unfold compF at h
 simp only [Option.bind_eq_bind, Option.bind_eq_some_iff] at h
 obtain ⟨fn, h1, b, h2, c, h3, h⟩ := h
 split at h
 ·rename_i h4
  obtain rfl := Option.some.inj h
  exact ⟨fn, b, h1, h2, h3, h4.1.1, rfl, rfl, h4.1.2, rfl, by simp [callable, h1, h2, h4.2]⟩
 ·simp at h

def resSem (tmps : Array Value) : ResultVar → Sem Value
 | .tmp t => pure (tmps.getD t undef)
 | .cell a t => do loadVar t (← asAddr (tmps.getD a undef))
theorem resV1_ok {T : Ts} {σ τ : St} {w : World} {a : Act} (hp : Pre Γ T σ τ w a) {r : ResultVar} (hok : rvOK P r = true) {x : V} (hx : resV1 T σ (rvOf P r) = some x) :
  ∃ v, (resSem a.tmps r).run P w = .ok v w ∧ Rep w (own (cup σ τ)) x v := by
 cases r with
 | tmp t =>
  simp only [rvOf, resV1, Option.some.injEq] at hx
  subst hx
  exact ⟨_, rfl, hp.kn t⟩
 | cell c t =>
  obtain ⟨d, hd⟩ := okT_some hok
  simp only [rvOf, resV1] at hx
  split at hx
  ·rename_i b off hb
   have hk := hp.kn c
   rw [hb] at hk
   have hk := rep_ptr_inv hk
   split at hx
   ·rename_i cs hcs
    split at hx
    ·rename_i hc
     obtain rfl := Option.some.inj hx
     obtain ⟨v, hv, hr⟩ := run_load_mem (hp.sim.mem (cup_of_some hcs)) hd rfl off hc.1 hc.2
     rw [Nat.zero_add] at hv
     exact ⟨v, by simp [resSem, hk, asAddr, hv], hr⟩
    ·simp at hx
   ·simp at hx
  ·simp at hx

theorem resVs_ok {T : Ts} {σ τ : St} {w : World} {a : Act} (hp : Pre Γ T σ τ w a) : ∀ (rs : List ResultVar), rs.all (rvOK P) = true → ∀ xs, (rs.map (rvOf P)).mapM (resV1 T σ) = some xs →
  ∃ vs : List Value, (rs.mapM (resSem a.tmps)).run P w = .ok vs w ∧ xs.length = vs.length ∧ ∀ (i : Nat) (x : V), xs[i]? = some x → Rep w (own (cup σ τ)) x (vs.getD i undef) := by
 intro rs
 induction rs with
 | nil => intro _ xs hx; simp at hx; subst hx; exact ⟨[], by simp, rfl, fun i x hx => by simp at hx⟩
 | cons r rs ih =>
  intro hok xs hx
  simp only [List.all_cons, Bool.and_eq_true] at hok
  simp only [List.map_cons, List.mapM_cons, Option.bind_eq_bind, Option.bind_eq_some_iff, Option.pure_def, Option.some.injEq] at hx
  obtain ⟨x, hx1, ys, hy, rfl⟩ := hx
  obtain ⟨v, hv, hr⟩ := resV1_ok hp hok.1 hx1
  obtain ⟨vs, hvs, hl, hrs⟩ := ih hok.2 ys hy
  refine ⟨v :: vs, by simp [List.mapM_cons, hv, hvs], by simp [hl], fun i z hz => ?_⟩
  cases i with
  | zero => simp at hz; subst hz; exact hr
  | succ i => simpa using hrs i z (by simpa using hz)

theorem results_ok {T : Ts} {σ τ : St} {w : World} {a : Act} {fn : Func} (hp : Pre Γ T σ τ w a) (hok : fn.results.toList.all (rvOK P) = true) {x : V}
  (hx : resV (fn.results.toList.map (rvOf P)) T σ = some x) : ∃ v, (results fn a.tmps).run P w = .ok v w ∧ Rep w (own (cup σ τ)) x v := by
 have hres : results fn a.tmps = (do
   let vs ← fn.results.mapM (resSem a.tmps)
   pure (if h : vs.size = 1 then vs[0] else .tuple vs)) := by
  have : (fun r : ResultVar => match r with
   | .tmp t => (pure (a.tmps.getD t undef) : Sem Value)
   | .cell c t => do loadVar t (← asAddr (a.tmps.getD c undef))) = resSem a.tmps := by funext r; cases r <;> rfl
  unfold results
  rw [← this]
  rfl
 rw [hres, Array.mapM_eq_mapM_toList]
 generalize fn.results.toList = rs at hx hok
 unfold resV at hx
 split at hx
 ·rename_i r hr
  obtain ⟨q, rfl⟩ : ∃ q, rs = [q] := by
   cases rs with
   | nil => simp at hr
   | cons q qs => cases qs with | nil => exact ⟨q, rfl⟩ | cons _ _ => simp at hr
  simp only [List.map_cons, List.map_nil, List.cons.injEq, and_true] at hr
  obtain ⟨v, hv, hrep⟩ := resV1_ok hp (r := q) (by simpa using hok) (by rw [hr]; exact hx)
  exact ⟨v, by simp [List.mapM_cons, hv], hrep⟩
 ·rename_i hne
  simp only [Option.map_eq_some_iff] at hx
  obtain ⟨xs, hxs, rfl⟩ := hx
  obtain ⟨vs, hvs, hl, hr⟩ := resVs_ok hp rs hok xs hxs
  have hl1 : xs.length = rs.length := by have := (mapM_some_get hxs).1; simpa using this.symm
  have hlen : vs.length ≠ 1 := by
   intro h1
   have : rs.length = 1 := by omega
   obtain ⟨q, rfl⟩ := List.length_eq_one_iff.1 this
   exact hne _ rfl
  refine ⟨.tuple vs.toArray, ?_, .tup xs _ (by simpa using hl) (fun i x hx => by simpa [Array.getD_eq_getD_getElem?, List.getD] using hr i x hx)⟩
  simp only [Sem.run_bind, Sem.run_map, hvs, Result.andThen_ok]
  rw [dif_neg (by simpa using hlen)]
  rfl

variable {f : FuncId} {n : Nat} {k : List It} {T : Ts} {σ : St} {Q : V → St → Prop}

/-- A return. -/
theorem SRun.ret {cf : CF} (hc : compF P f = some cf) {r r' : V} {σ' : St} (hr : resV cf.rs T σ = some r) (hcv : Conv σ r σ' r') (hQ : Q r' σ') : SRun P Γ f n (.code .ret :: k) T σ Q := by
 intro todo hrel τ w a cs hd hs hp
 obtain ⟨it, rest, hr', hx, hst⟩ := peel hrel
 obtain ⟨fn, b, hfn, _, _, _, _, hrs, hok, _, _⟩ := compF_inv hc
 rw [hrs] at hr
 obtain ⟨v, hv, hrep⟩ := results_ok hp hok hr
 cases hr' with
 | scope _ => exact absurd rfl (hx _)
 | code h1 h2 =>
  rename_i mc
  have key : ∀ (mc : Code) rest, compC P n mc = some .ret → ∃ todo', Steps P (lone ((bas f).at a (.code mc :: rest)) cs w) (lone { (bas f).at a todo' with mode := .returning } cs w) := by
   intro mc
   induction mc with
   | scope q ih =>
    intro rest h1
    obtain ⟨todo', g2⟩ := ih (.inScope q :: rest) (by simpa [compC] using h1)
    exact ⟨todo', .head step_scope g2⟩
   | ret => intro rest _; exact ⟨_, .one step_ret⟩
   | _ => intro rest h1; have hi := compC_inv h1; simp at hi
  obtain ⟨todo', g2⟩ := key mc rest h1
  have hdj : disj σ' τ := by
   intro m
   cases hm : σ' m with
   | none => exact .inl rfl
   | some c => exact .inr (hp.dj.other (hcv.1 m c hm))
  have hle : ∀ b cs, cup σ' τ b = some cs → cup σ τ b = some cs := by
   intro b cs hb
   unfold cup at *
   cases hm : σ' b with
   | none =>
    rw [hm] at hb
    have := hp.dj.symm_none hb
    rw [this]; exact hb
   | some c => rw [hm] at hb; rw [hcv.1 b c hm]; exact hb
  refine ⟨r', v, w, { (bas f).at a todo' with mode := .returning }, σ', (hst _ a w cs).trans g2, rfl, ⟨rfl, hd, rfl, fn, hfn, hv⟩, hQ, hdj, hp.sim.less hle, hcv.2.rep hp.sim hp.dj hcv.1 hrep, (Keep.refl w _).less ?_⟩
  intro m hm
  unfold own at *
  obtain ⟨c, hc⟩ := Option.isSome_iff_exists.1 hm
  rw [hle m c hc]; rfl

/-- The arguments, as they stand in the temporaries. -/
def argsT : Nat → List V → Ts
 | _, [] => []
 | j, x :: r => (j, x) :: argsT (j + 1) r
theorem look_argsT : ∀ (xs : List V) (j n : Nat), look (argsT j xs) n = if j ≤ n then (xs.getD (n - j) .undef) else .undef := by
 intro xs
 induction xs with
 | nil => intro j n; simp [argsT, look]
 | cons x r ih =>
  intro j n
  simp only [argsT, look]
  by_cases hb : j = n
  case neg =>
   rw [if_neg hb, ih]
   have hne : j ≠ n := hb
   by_cases h : j ≤ n
   ·rw [if_pos (by omega), if_pos h]
    have : n - j = (n - (j + 1)) + 1 := by omega
    rw [this]; simp
   ·rw [if_neg (by omega), if_neg h]
  case pos =>
   subst hb
   simp

/-- A function's contract out of its body. -/
theorem acalls_of {cf : CF} (hc : compF P f = some cf) {args : List V} (hl : args.length = cf.np) (h : SRun P Γ f cf.n [.code cf.body] (argsT 0 args) σ Q) : ACalls P Γ f args σ Q := by
 obtain ⟨fn, b, hfn, hb, hcb, hnp, hnp2, _, _, hn, hcall⟩ := compF_inv hc
 refine ⟨hcall, ?_⟩
 intro τ w cargs h1 h2 h3 h4 cs
 rw [hn] at h
 have hsz : cargs.size = fn.params.size + fn.nfree := by rw [← h4.1, hl, hnp2]
 have henter : Frame.enter P f cargs .normal = (bas f).at { tmps := cargs ++ Array.replicate (fn.ntmps - cargs.size) undef, defers := [] } [.code b] := by
  simp [Frame.enter, Frame.at, hfn, hb, bas]
 have hpre : Pre Γ (argsT 0 args) σ τ w { tmps := cargs ++ Array.replicate (fn.ntmps - cargs.size) undef, defers := [] } := by
  refine ⟨h1, h2, h3, fun m => ?_⟩
  rw [look_argsT, if_pos (Nat.zero_le _), Nat.sub_zero]
  rcases Nat.lt_or_ge m args.length with hm | hm
  ·have hx : args[m]? = some (args.getD m .undef) := by simp [List.getD, hm]
   rw [getD_append_left (by rw [← h4.1]; exact hm)]
   exact h4.2 m _ hx
  ·have : args.getD m .undef = .undef := by simp [List.getD, hm]
   rw [this]; exact .undef _
 obtain ⟨r, v, w', fr, σ', s1, s2, s3, s4, s5⟩ := h [.code b] (.code hcb .nil) τ w _ cs rfl (by simp; omega) hpre
 refine ⟨.returned v, w', fr, ⟨r, v, σ', rfl, s4, s5⟩, ?_, s2, s3⟩
 rw [henter]; exact s1

end
end Go.Proofs.Ytdenfjbhkdhlkaa.Lg
