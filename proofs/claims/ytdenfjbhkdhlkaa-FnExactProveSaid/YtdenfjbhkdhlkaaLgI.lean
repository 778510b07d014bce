/- The own logic: a slice that is written down is owned. It holds for every program. -/
import Derived.Test.YtdenfjbhkdhlkaaLgJ
set_option linter.unusedSimpArgs false
set_option linter.unusedVariables false
namespace Go.Proofs.Ytdenfjbhkdhlkaa.Lg
open Go
variable {P : Program} {Γ : St}
theorem InsOK.bslO {es n : Nat} {zv : V} {ps : List (Nat × Opd)} {T : Ts} {σ : St} {G : V → St → Prop} (hrow : rowOK (ev Γ T) es n ps) (hzl : zv.cells.length = es) (hz1 : ∀ c ∈ zv.cells, c.one = true)
  (hG : ∀ b, σ b = none → G (.msl b es 0 n n) (upd σ b (flat (rowV (ev Γ T) (List.replicate n zv) ps)))) : InsOK P Γ (.bsl es n zv ps) T σ G := by
 intro o hc τ w a hpre
 have hop : ∃ t n ps, o.op = .buildSlice t n ps := by
  cases ho : o.op with
  | buildSlice t n ps => exact ⟨t, n, ps, rfl⟩
  | _ => exfalso; simp only [compI, ho] at hc; (repeat' split at hc) <;> first | (simp at hc; done) | (simp only [Option.bind_eq_bind, Option.bind_eq_some_iff] at hc; obtain ⟨fd, _, hc⟩ := hc; split at hc <;> first | (simp at hc; done) | (simp only [Option.bind_eq_some_iff, Option.some.injEq, reduceCtorEq, and_false, exists_false] at hc; done)) | (simp only [Option.map_eq_some_iff, Option.bind_eq_bind, Option.bind_eq_some_iff, Option.some.injEq, reduceCtorEq, and_false, exists_false] at hc; done) | (simp_all; done)
 obtain ⟨t, n', ps', ho⟩ := hop
 simp only [compI, ho] at hc
 split at hc
 ·rename_i e ht
  simp only [Option.bind_eq_bind, Option.bind_eq_some_iff] at hc
  obtain ⟨qs, hqs, hc⟩ := hc
  split at hc
  ·rename_i hcond
   simp only [Bool.and_eq_true, decide_eq_true_eq, bne_iff_ne, ne_eq] at hcond
   obtain ⟨⟨hok, hbig⟩, hes0⟩ := hcond
   simp only [Option.bind_eq_some_iff, Option.some.injEq, I.bsl.injEq] at hc
   obtain ⟨zv', hzv, rfl, rfl, rfl, rfl⟩ := hc
   obtain ⟨it, v, hit, hiz, hzr⟩ := zeroV_ok (w := w) (O := own (cup σ τ)) hzv
   have hzA := RepA.of_rep hzr hz1
   have hzs : v.cells.size = P.cellsOf e := by rw [← hzA.1]; exact hzl
   obtain ⟨r1, r2, r3, r4⟩ := rowV_props (ev Γ T) qs (List.replicate n' zv') (by simp) (fun x hx => by rw [List.eq_of_mem_replicate hx]; exact hzl) hrow
   have hflat : (flat (List.replicate n' zv')).length = n' * P.cellsOf e := by
    rw [flat_length (es := P.cellsOf e) (fun x hx => by rw [List.eq_of_mem_replicate hx]; exact hzl)]; simp
   -- the zero row
   have hzrow : RepA w (own (cup σ τ)) (flat (List.replicate n' zv')) ((Array.range (n' * P.cellsOf e)).map (v.cells[· % v.cells.size]!)) := by
    refine ⟨by simp [hflat], fun i x hx => ?_⟩
    have hi : i < n' * P.cellsOf e := by have := (List.getElem?_eq_some_iff.1 hx).1; omega
    rw [flat_replicate hzl n' i hi] at hx
    have := hzA.2 _ x hx
    have hm : i % P.cellsOf e < v.cells.size := by rw [hzs]; exact Nat.mod_lt _ (by omega)
    have he : ((Array.range (n' * P.cellsOf e)).map (v.cells[· % v.cells.size]!)).getD i undef = v.cells.getD (i % P.cellsOf e) undef := by
     have hg : v.cells[i % P.cellsOf e]? = some (v.cells[i % P.cellsOf e]'hm) := Array.getElem?_eq_getElem hm
     simp [Array.getD_eq_getD_getElem?, hi, hzs, hg, getElem!_def]
    rw [he]; exact this
   obtain ⟨q1, q2⟩ := mapM_some_get hqs
   obtain ⟨cs', f1, f2⟩ := fill_ok hpre (place := fun i => some (i * P.cellsOf e, P.cellsOf e)) ps'.toList (qs.map fun q => (q.1 * P.cellsOf e, P.cellsOf e, q.2)) _ _ (by simpa using q1) (fun j off n2 y h => by
    simp only [List.getElem?_map, Option.map_eq_some_iff, Prod.mk.injEq] at h
    obtain ⟨qq, h1, rfl, rfl, rfl⟩ := h
    obtain ⟨q, g1, g2⟩ := q2 j _ h1
    simp only [elemOf', Option.map_eq_some_iff] at g2
    obtain ⟨y', hy', rfl⟩ := g2
    exact ⟨q, g1, hy', rfl⟩) hzrow (by rw [hflat]; exact r4)
   rw [← r3] at f2
   obtain ⟨ie, hie⟩ := okT_info hok
   rw [hit] at hie
   have hsize : (sizeOf e).run P w = .ok (P.cellsOf e) w := run_sizeOf hit w
   have hrun : (execOp a.eval o).run P w = .ok (.value (.slice (some ⟨w.heap.size, 0, none⟩) n' n')) { w with heap := w.heap.push (.cells cs' e) } := by
    have hfill : Instr.fill (fun i => some (i * P.cellsOf e, P.cellsOf e)) ((Array.range (n' * P.cellsOf e)).map (v.cells[· % v.cells.size]!)) (ps'.map fun (i, x) => (i, a.eval x)).toList = some cs' := by rw [← f1]; simp
    have hbs : (Instr.buildSlice t n' (ps'.map fun (i, x) => (i, a.eval x))).run P w = .ok (.slice (some ⟨w.heap.size, 0, none⟩) n' n') { w with heap := w.heap.push (.cells cs' e) } := by
     unfold Instr.buildSlice
     simp only [Sem.run_bind, run_underlying ht, Result.andThen_ok, hsize]
     rw [if_neg (by omega)]
     split
     ·rename_i h0
      rw [h0] at hfill
      have hr0 : Array.range 0 = #[] := by simp
      rw [hr0] at hfill
      simp only [Array.map_empty] at hfill
      simp only [Sem.run_bind, Sem.run_pure, Result.andThen_ok, h0, hr0, Array.map_empty, hfill]
      simp [newRow, run_newObj]
     ·have hz0 : (zeroValue e).run P w = .ok v w := by simp [zeroValue, typeInfo, hit, hiz]
      simp only [Sem.run_bind, hz0, Sem.run_pure, Result.andThen_ok, hfill]
      simp [newRow, run_newObj]
    simp only [execOp, ho]
    exact run_v hbs
   have hfr := hpre.sim.fresh
   have hσ : σ w.heap.size = none := by
    cases hs : σ w.heap.size with
    | none => rfl
    | some cs => rw [cup_of_some hs] at hfr; cases hfr
   have hτ : τ w.heap.size = none := by simpa [cup, hσ] using hfr
   unfold Oper.wp
   rw [hrun]
   obtain ⟨s1, s2⟩ := Sim.new (w' := { w with heap := w.heap.push (.cells cs' e) }) hpre.sim rfl (Nat.le_of_eq f2.1) f2.2
   rw [← cup_upd] at s1 s2
   refine ⟨.msl w.heap.size (P.cellsOf e) 0 n' n', _, _, rfl, hG _ hσ, disj_upd hpre.dj hτ, s1, .msl _ _ _ _ _ cs' e (0, 0) heap_push_new ?_ (Nat.le_refl _), s2⟩
   have := f2.1
   rw [flat_length r2, r1] at this
   omega
  ·simp at hc
 ·simp at hc
section
variable {f : FuncId} {n : Nat} {k : List It} {T : Ts} {σ : St} {Q : V → St → Prop} {d : Option Nat} {l : List GI}
theorem SRun.bslR {es m : Nat} {zv : V} {ps : List (Nat × Opd)} (hrow : rowOK (ev Γ T) es m ps) (hzl : zv.cells.length = es) (hz1 : ∀ c ∈ zv.cells, c.one = true)
  (hk : ∀ b, σ b = none → W P Γ f n Q (.ops l :: k) (putT T d (.msl b es 0 m m)) (upd σ b (flat (rowV (ev Γ T) (List.replicate m zv) ps)))) : SRun P Γ f n (.ops (⟨d, none, .bsl es m zv ps⟩ :: l) :: k) T σ Q :=
 SRun.op (G := fun y s => ∃ b, σ b = none ∧ y = .msl b es 0 m m ∧ s = upd σ b (flat (rowV (ev Γ T) (List.replicate m zv) ps))) rfl (InsOK.bslO hrow hzl hz1 fun b hb => ⟨b, hb, rfl, rfl⟩) (fun y s ⟨b, hb, e1, e2⟩ => by subst e1 e2; exact (hk b hb).sound)
theorem SRun.allocS {z : List V} (hk : ∀ b, σ b = none → SRun P Γ f n (.ops l :: k) (putT T d (.ptr b 0)) (upd σ b z) Q) : SRun P Γ f n (.ops (⟨d, none, .alloc z⟩ :: l) :: k) T σ Q :=
 SRun.op (G := fun x s => ∃ b, σ b = none ∧ x = .ptr b 0 ∧ s = upd σ b z) rfl (InsOK.alloc fun b hb => ⟨b, hb, rfl, rfl⟩) (fun x s ⟨b, hb, e1, e2⟩ => by subst e1 e2; exact hk b hb)
theorem SRun.callS {x : Opd} {as : List Opd} {g : FuncId} {vs : List V} {G : V → St → Prop} (h : ACalls P Γ g vs σ G) (hv : ∃ caps, ev Γ T x = .fn g caps ∧ as.map (ev Γ T) ++ caps = vs) (hk : ∀ r s, G r s → SRun P Γ f n (.ops l :: k) (putT T d r) s Q) :
  SRun P Γ f n (.ops (⟨d, none, .call x as⟩ :: l) :: k) T σ Q := by
 obtain ⟨caps, h1, h2⟩ := hv
 exact SRun.op rfl (InsOK.call h1 (by rw [h2]; exact h)) (fun y s hG => hk y s hG)
theorem SRun.mvS {x : Opd} (hk : SRun P Γ f n (.ops l :: k) (putT T d (ev Γ T x)) σ Q) : SRun P Γ f n (.ops (⟨d, none, .mv x⟩ :: l) :: k) T σ Q :=
 SRun.op (G := fun y s => y = ev Γ T x ∧ s = σ) rfl (InsOK.pure (p := True) rfl trivial ⟨rfl, rfl⟩) (fun y s ⟨e1, e2⟩ => by subst e1 e2; exact hk)
end
end Go.Proofs.Ytdenfjbhkdhlkaa.Lg
