/- The own logic, part E: more of the pure instructions. It holds for every program. -/
import Derived.Test.YtdenfjbhkdhlkaaLgD
import Derived.Laws.Small
import Derived.Laws.Pointers
set_option linter.unusedSimpArgs false
set_option linter.unusedVariables false
namespace Go.Proofs.Ytdenfjbhkdhlkaa.Lg
open Go

section
variable {P : Program} {Γ : St} {T : Ts} {σ τ : St} {w : World} {a : Act} {o : Oper} {i : I} {p : Prop} {x : V}

theorem rep_int_inv {O : Nat → Prop} {k : IntKind} {n : Int} {v : Value} (h : Rep w O (.int k n) v) : v = .int k n := by cases h; rfl
theorem rep_bool_inv {O : Nat → Prop} {b : Bool} {v : Value} (h : Rep w O (.bool b) v) : v = .bool b := by cases h; rfl
theorem rep_str_inv {O : Nat → Prop} {s : List UInt8} {v : Value} (h : Rep w O (.str s) v) : v = .string ⟨s.toArray⟩ := by cases h; rfl
theorem rep_agg_inv {O : Nat → Prop} {cs : List V} {v : Value} (h : Rep w O (.agg cs) v) : ∃ vs, v = .agg vs ∧ cs.length = vs.size ∧ (∀ (i : Nat) (x : V), cs[i]? = some x → x.one = true) ∧ (∀ (i : Nat) (x : V), cs[i]? = some x → Rep w O x (vs.getD i undef)) := by
 cases h with
 | agg _ vs h1 h2 h3 => exact ⟨vs, rfl, h1, h2, h3⟩
theorem rep_iptr_inv {O : Nat → Prop} {cs : List V} {v : Value} (h : Rep w O (.iptr cs) v) : ∃ b off, v = .pointer (some ⟨b, off, none⟩) ∧ b < w.heap.size ∧ ¬ O b ∧ Mem w O cs b off := by
 cases h with
 | iptr _ b off cell h1 h2 h3 h4 h5 => exact ⟨b, off, rfl, h1, h2, Mem.of_cell h3 h4 h5⟩
theorem rep_ptr_inv {O : Nat → Prop} {b off : Nat} {v : Value} (h : Rep w O (.ptr b off) v) : v = .pointer (some ⟨b, off, none⟩) := by cases h; rfl
theorem rep_msl_inv {O : Nat → Prop} {b es off len cap : Nat} {v : Value} (h : Rep w O (.msl b es off len cap) v) : ∃ arr e fz, v = .slice (some ⟨b, off, none⟩) len cap ∧ w.heap[b]? = some (.cells arr e fz) ∧ off + cap * es ≤ arr.size ∧ len ≤ cap := by
 cases h with
 | msl _ _ _ _ _ arr e fz h1 h2 h3 => exact ⟨arr, e, fz, rfl, h1, h2, h3⟩

theorem y_bin (hpre : Pre Γ T σ τ w a) {op : BinOp} {t t' : TypeId} {y z : Operand} (ho : o.op = .binOp op t y z t') {y1 z1 : Opd} (hy : opd y = some y1) (hz : opd z = some z1) (hi : i = .bin op y1 z1) (hp : pureI σ (ev Γ T) i = some (p, x)) (hs : p) :
  Yields P o a w (own (cup σ τ)) x := by
 subst hi
 have h1 := ev_rep hpre hy
 have h2 := ev_rep hpre hz
 simp only [pureI] at hp
 obtain ⟨r, hr, hrep⟩ := run_binV (P := P) (ty := t) h1 h2 hp hs
 refine .same (v := r) ?_ hrep
 have hg : (eqGuard op t y z (a.eval y) (a.eval z)).run P w = .ok () w := by
  cases hu : ev Γ T y1 <;> rw [hu] at h1 hp <;> first | (simp [binV] at hp; done) | skip
  ·rw [rep_int_inv h1]; exact run_eqGuard_plain (by simp) (by simp) w
  ·rw [rep_str_inv h1]; exact run_eqGuard_plain (by simp) (by simp) w
 simp [execOp, ho, hg, hr]

theorem y_eqb (hpre : Pre Γ T σ τ w a) {op : BinOp} {t t' : TypeId} {y z : Operand} {neg : Bool} (hop : op = if neg then .neq else .eql) (ho : o.op = .binOp op t y z t') (ht : P.underlying t = some .bool) {y1 z1 : Opd} (hy : opd y = some y1) (hz : opd z = some z1)
  (hi : i = .eqb neg y1 z1) (hp : pureI σ (ev Γ T) i = some (p, x)) : Yields P o a w (own (cup σ τ)) x := by
 subst hi
 have h1 := ev_rep hpre hy
 have h2 := ev_rep hpre hz
 simp only [pureI] at hp
 split at hp
 ·rename_i b c hb hc
  simp only [Option.some.injEq, Prod.mk.injEq] at hp
  obtain ⟨_, rfl⟩ := hp
  rw [hb] at h1; rw [hc] at h2
  have e1 := rep_bool_inv h1
  have e2 := rep_bool_inv h2
  refine .same (v := .bool (bif neg then !(b == c) else b == c)) ?_ (.bool _)
  have hg : (eqGuard op t y z (a.eval y) (a.eval z)).run P w = .ok () w := by rw [e1]; exact run_eqGuard_plain (by simp) (by simp) w
  cases neg <;> simp only [Bool.false_eq_true, if_false, if_true] at hop <;> subst hop <;> rw [e1, e2] at hg <;> simp [execOp, ho, hg, e1, e2, run_eql_bool w t b c ht, run_neq_bool w t b c ht]
 ·simp at hp

theorem y_eqp (hpre : Pre Γ T σ τ w a) {op : BinOp} {t t' e : TypeId} {y z : Operand} {neg : Bool} (hop : op = if neg then .neq else .eql) (ho : o.op = .binOp op t y z t') (ht : P.underlying t = some (.pointer e)) {y1 z1 : Opd} (hy : opd y = some y1) (hz : opd z = some z1)
  (hi : i = .eqp neg y1 z1) (hp : pureI σ (ev Γ T) i = some (p, x)) : Yields P o a w (own (cup σ τ)) x := by
 subst hi
 have h1 := ev_rep hpre hy
 have h2 := ev_rep hpre hz
 simp only [pureI] at hp
 have key : ∀ u r, a.eval y = .pointer u → a.eval z = .pointer none → r = (bif neg then !u.isNone else u.isNone) → Yields P o a w (own (cup σ τ)) (.bool r) := by
  intro u r e1 e2 hr
  subst hr
  have hpt : P.underlying t = some (.pointer (P.pointee t)) := by unfold Program.pointee; rw [ht]
  refine .same (v := .bool (bif neg then !u.isNone else u.isNone)) ?_ (.bool _)
  have hg : (eqGuard op t y z (a.eval y) (a.eval z)).run P w = .ok () w := by rw [e1]; exact run_eqGuard_plain (by simp) (by simp) w
  cases neg <;> simp only [Bool.false_eq_true, if_false, if_true] at hop <;> subst hop <;> rw [e1, e2] at hg <;> simp [execOp, ho, hg, e1, e2, run_eql_pointer_nil w t u hpt, run_neq_pointer_nil w t u hpt]
 split at hp
 ·rename_i b off hb hc
  simp only [Option.some.injEq, Prod.mk.injEq] at hp
  obtain ⟨_, rfl⟩ := hp
  rw [hb] at h1; rw [hc] at h2
  have e2 : a.eval z = .pointer none := by generalize a.eval z = q at h2; cases h2; rfl
  exact key _ _ (rep_ptr_inv h1) e2 (by cases neg <;> rfl)
 ·rename_i cs hb hc
  simp only [Option.some.injEq, Prod.mk.injEq] at hp
  obtain ⟨_, rfl⟩ := hp
  rw [hb] at h1; rw [hc] at h2
  obtain ⟨b, off, e1, _⟩ := rep_iptr_inv h1
  have e2 : a.eval z = .pointer none := by generalize a.eval z = q at h2; cases h2; rfl
  exact key _ _ e1 e2 (by cases neg <;> rfl)
 ·rename_i hb hc
  simp only [Option.some.injEq, Prod.mk.injEq] at hp
  obtain ⟨_, rfl⟩ := hp
  rw [hb] at h1; rw [hc] at h2
  have e1 : a.eval y = .pointer none := by generalize a.eval y = q at h1; cases h1; rfl
  have e2 : a.eval z = .pointer none := by generalize a.eval z = q at h2; cases h2; rfl
  exact key _ _ e1 e2 (by cases neg <;> rfl)
 ·simp at hp

theorem y_un (hpre : Pre Γ T σ τ w a) {op : UnOp} {t : TypeId} {y : Operand} (ho : o.op = .unOp op t y) (hc : compI P o = some i) (hp : pureI σ (ev Γ T) i = some (p, x)) : Yields P o a w (own (cup σ τ)) x := by
 simp only [compI, ho, Option.map_eq_some_iff] at hc
 obtain ⟨q, hq, rfl⟩ := hc
 have h1 := ev_rep hpre hq
 simp only [pureI] at hp
 split at hp
 ·rename_i k n hb
  simp only [Option.some.injEq, Prod.mk.injEq] at hp
  obtain ⟨_, rfl⟩ := hp
  rw [hb] at h1
  exact .same (v := .int k (k.wrap (0 - n))) (by simp [execOp, ho, rep_int_inv h1, Op.unary, Op.intArith]) (.int _ _)
 ·rename_i b hb
  simp only [Option.some.injEq, Prod.mk.injEq] at hp
  obtain ⟨_, rfl⟩ := hp
  rw [hb] at h1
  exact .same (v := .bool (!b)) (by simp [execOp, ho, rep_bool_inv h1, Op.unary]) (.bool _)
 ·simp at hp

theorem y_i2i (hpre : Pre Γ T σ τ w a) {s d : TypeId} {y : Operand} {k k' : IntKind} (ho : o.op = .convert s d y) (hs' : P.underlying s = some (.int k')) (hd : P.underlying d = some (.int k)) {y1 : Opd} (hy : opd y = some y1) (hi : i = .i2i k y1)
  (hp : pureI σ (ev Γ T) i = some (p, x)) : Yields P o a w (own (cup σ τ)) x := by
 subst hi
 have h1 := ev_rep hpre hy
 simp only [pureI] at hp
 split at hp
 ·rename_i k2 n hb
  simp only [Option.some.injEq, Prod.mk.injEq] at hp
  obtain ⟨_, rfl⟩ := hp
  rw [hb] at h1
  refine .same (v := .int k (k.wrap n)) ?_ (.int _ _)
  simp [execOp, ho, rep_int_inv h1, convert, run_underlying hs', run_underlying hd, Conv.intToInt]
 ·simp at hp

theorem opds_rep (hpre : Pre Γ T σ τ w a) {ys : Array Operand} {qs : List Opd} (h : opds ys = some qs) : qs.length = ys.size ∧ ∀ (j : Nat) (u : V), (qs.map (ev Γ T))[j]? = some u → Rep w (own (cup σ τ)) u ((ys.map a.eval).getD j undef) := by
 obtain ⟨h1, h2⟩ := mapM_some_get h
 refine ⟨by simpa using h1.symm, fun j u hu => ?_⟩
 rw [List.getElem?_map] at hu
 simp only [Option.map_eq_some_iff] at hu
 obtain ⟨q, hq, rfl⟩ := hu
 obtain ⟨y, hy, hyq⟩ := h2 j q hq
 rw [Array.getElem?_toList] at hy
 have : (ys.map a.eval).getD j undef = a.eval y := by simp [Array.getD_eq_getD_getElem?, hy]
 rw [this]; exact ev_rep hpre hyq

theorem y_mkfn (hpre : Pre Γ T σ τ w a) {f : FuncId} {first cs : Array Operand} (ho : o.op = .makeFunc (.func f) first cs) (hc : compI P o = some i) (hp : pureI σ (ev Γ T) i = some (p, x)) : Yields P o a w (own (cup σ τ)) x := by
 simp only [compI, ho] at hc
 split at hc
 ·rename_i hf
  simp only [Option.map_eq_some_iff] at hc
  obtain ⟨q, hq, rfl⟩ := hc
  simp only [pureI, Option.some.injEq, Prod.mk.injEq] at hp
  obtain ⟨_, rfl⟩ := hp
  obtain ⟨h1, h2⟩ := opds_rep hpre hq
  have hf' : first = #[] := by simpa using hf
  subst hf'
  exact .same (v := .func (.func f) #[] (cs.map a.eval)) (by simp [execOp, ho, Instr.makeFunc]) (.fn _ _ _ (by simp [h1]) h2)
 ·simp at hc

theorem y_faddr (hpre : Pre Γ T σ τ w a) {s : TypeId} {f : Nat} {y : Operand} (ho : o.op = .fieldAddr s y f) (hc : compI P o = some i) (hp : pureI σ (ev Γ T) i = some (p, x)) : Yields P o a w (own (cup σ τ)) x := by
 simp only [compI, ho] at hc
 split at hc
 ·rename_i fs hfs
  simp only [Option.bind_eq_bind, Option.bind_eq_some_iff] at hc
  obtain ⟨fd, hfd, hc⟩ := hc
  split at hc
  ·simp at hc
  ·rename_i hnz
   simp only [Option.bind_eq_some_iff, Option.some.injEq] at hc
   obtain ⟨q, hq, rfl⟩ := hc
   have h1 := ev_rep hpre hq
   have hinfo : ∃ it, P.info? fd.type = some it := by
    unfold Program.cellsOf at hnz
    cases hi : P.info? fd.type with
    | none => simp [hi] at hnz
    | some it => exact ⟨it, rfl⟩
   obtain ⟨it, hit⟩ := hinfo
   have hplace : ∀ ad : Addr, (fieldPlace ad fd).run P w = .ok (ad.add fd.offset) w := by
    intro ad
    simp [fieldPlace, run_sizeOf hit, hnz]
   simp only [pureI] at hp
   split at hp
   ·rename_i b off hb
    simp only [Option.some.injEq, Prod.mk.injEq] at hp
    obtain ⟨_, rfl⟩ := hp
    rw [hb] at h1
    refine .same (v := .pointer (some ⟨b, off + fd.offset, none⟩)) ?_ (.ptr _ _)
    simp [execOp, ho, rep_ptr_inv h1, Instr.fieldAt, run_underlying hfs, hfd, Instr.sureAddr, hplace, addr_add]
   ·rename_i cs hb
    simp only [Option.some.injEq, Prod.mk.injEq] at hp
    obtain ⟨_, rfl⟩ := hp
    rw [hb] at h1
    obtain ⟨b, off, e1, hlt, hno, hm⟩ := rep_iptr_inv h1
    refine .same (v := .pointer (some ⟨b, off + fd.offset, none⟩)) ?_ ((hm.drop fd.offset).iptr hlt hno)
    simp [execOp, ho, e1, Instr.fieldAt, run_underlying hfs, hfd, Instr.sureAddr, hplace, addr_add]
   ·simp at hp
 ·simp at hc

theorem y_field (hpre : Pre Γ T σ τ w a) {s : TypeId} {f : Nat} {y : Operand} (ho : o.op = .field s y f) (hty : ∀ fs fd, P.underlying s = some (.struct fs) → fs[f]? = some fd → ∃ d, P.underlying fd.type = some d) (hc : compI P o = some i)
  (hp : pureI σ (ev Γ T) i = some (p, x)) (hs : p) : Yields P o a w (own (cup σ τ)) x := by
 simp only [compI, ho] at hc
 split at hc
 ·rename_i fs hfs
  simp only [Option.bind_eq_bind, Option.bind_eq_some_iff] at hc
  obtain ⟨fd, hfd, hc⟩ := hc
  obtain ⟨d, hd⟩ := hty fs fd hfs hfd
  have hok : ¬ (okT P fd.type = false) := by simp [okT, hd]
  rw [if_neg hok] at hc
  simp only [Option.bind_eq_some_iff, Option.some.injEq] at hc
  obtain ⟨q, hq, rfl⟩ := hc
  have h1 := ev_rep hpre hq
  simp only [pureI] at hp
  split at hp
  ·rename_i cs hb
   simp only [Option.some.injEq, Prod.mk.injEq] at hp
   obtain ⟨rfl, rfl⟩ := hp
   rw [hb] at h1
   obtain ⟨vs, e1, hl, h1', hr⟩ := rep_agg_inv h1
   obtain ⟨v, hv, hrep⟩ := run_part hd hl h1' hr fd.offset _ rfl hs.1 hs.2
   refine .same (v := v) ?_ hrep
   simp [execOp, ho, e1, Instr.field, run_underlying hfs, hfd, asAgg, hv]
  ·simp at hp
 ·simp at hc

theorem y_iaddr (hpre : Pre Γ T σ τ w a) {t e : TypeId} {y z : Operand} (ho : o.op = .indexAddr t y z) (ht : P.underlying t = some (.slice e)) (he : ∃ it, P.info? e = some it) {y1 z1 : Opd} (hy : opd y = some y1) (hz : opd z = some z1)
  (hi : i = .iaddr (P.cellsOf e) y1 z1) (hp : pureI σ (ev Γ T) i = some (p, x)) (hs : p) : Yields P o a w (own (cup σ τ)) x := by
 subst hi
 obtain ⟨it, hit⟩ := he
 have h1 := ev_rep hpre hy
 have h2 := ev_rep hpre hz
 simp only [pureI] at hp
 split at hp
 ·rename_i ex es xs k n hb hn
  simp only [Option.some.injEq, Prod.mk.injEq] at hp
  obtain ⟨rfl, rfl⟩ := hp
  obtain ⟨h0, hlt, rfl⟩ := hs
  rw [hb] at h1; rw [hn] at h2
  have hne : xs ≠ [] := by intro h; subst h; simp at hlt; omega
  obtain ⟨b, off, c, e1, hlc, hex, hes, hbl, hno, hm⟩ := h1.isl_mem hne
  have hlt' : n.toNat < xs.length := by omega
  refine .same (v := .pointer (some ⟨b, off + n.toNat * P.cellsOf e, none⟩)) ?_ ?_
  ·simp [execOp, ho, e1, rep_int_inv h2, Instr.indexAt, asIntOf, run_underlying ht, run_sizeOf hit, h0, hlt, addr_add]
  ·have := hm.part (n.toNat * P.cellsOf e) (P.cellsOf e)
   rw [flat_at hes hlt'] at this
   exact this.iptr hbl hno
 ·rename_i b es off len cap k n hb hn
  simp only [Option.some.injEq, Prod.mk.injEq] at hp
  obtain ⟨rfl, rfl⟩ := hp
  obtain ⟨h0, hlt, rfl⟩ := hs
  rw [hb] at h1; rw [hn] at h2
  obtain ⟨arr, e', fz, e1, _, _, _⟩ := rep_msl_inv h1
  refine .same (v := .pointer (some ⟨b, off + n.toNat * P.cellsOf e, none⟩)) ?_ (.ptr _ _)
  simp [execOp, ho, e1, rep_int_inv h2, Instr.indexAt, asIntOf, run_underlying ht, run_sizeOf hit, h0, hlt, addr_add]
 ·simp at hp

theorem y_iaddrA (hpre : Pre Γ T σ τ w a) {t e : TypeId} {len : Nat} {y z : Operand} (ho : o.op = .indexAddr t y z) (ht : P.underlying t = some (.array len e)) (he : ∃ it, P.info? e = some it) {y1 z1 : Opd} (hy : opd y = some y1) (hz : opd z = some z1)
  (hi : i = .iaddrA (P.cellsOf e) len y1 z1) (hp : pureI σ (ev Γ T) i = some (p, x)) (hs : p) : Yields P o a w (own (cup σ τ)) x := by
 subst hi
 obtain ⟨it, hit⟩ := he
 have h1 := ev_rep hpre hy
 have h2 := ev_rep hpre hz
 simp only [pureI] at hp
 split at hp
 ·rename_i b off k n hb hn
  simp only [Option.some.injEq, Prod.mk.injEq] at hp
  obtain ⟨rfl, rfl⟩ := hp
  obtain ⟨h0, hlt⟩ := hs
  rw [hb] at h1; rw [hn] at h2
  refine .same (v := .pointer (some ⟨b, off + n.toNat * P.cellsOf e, none⟩)) ?_ (.ptr _ _)
  simp [execOp, ho, rep_ptr_inv h1, rep_int_inv h2, Instr.indexAt, asIntOf, run_underlying ht, run_sizeOf hit, Instr.sureAddr, h0, hlt, addr_add]
 ·rename_i cs k n hb hn
  simp only [Option.some.injEq, Prod.mk.injEq] at hp
  obtain ⟨rfl, rfl⟩ := hp
  obtain ⟨h0, hlt⟩ := hs
  rw [hb] at h1; rw [hn] at h2
  obtain ⟨b, off, e1, hbl, hno, hm⟩ := rep_iptr_inv h1
  refine .same (v := .pointer (some ⟨b, off + n.toNat * P.cellsOf e, none⟩)) ?_ ((hm.drop _).iptr hbl hno)
  simp [execOp, ho, e1, rep_int_inv h2, Instr.indexAt, asIntOf, run_underlying ht, run_sizeOf hit, Instr.sureAddr, h0, hlt, addr_add]
 ·simp at hp

theorem bytes_get (s : List UInt8) {n : Nat} (h : n < s.length) : (⟨s.toArray⟩ : ByteArray)[n]? = some (s.getD n 0) := by
 rw [getElem?_pos (⟨s.toArray⟩ : ByteArray) n (by rw [size_of_bytes]; exact h)]
 congr 1
 show s.toArray[n]'_ = _
 simp [List.getD, h]
theorem y_idxs (hpre : Pre Γ T σ τ w a) {t : TypeId} {y z : Operand} (ho : o.op = .index t y z) (ht : P.underlying t = some .string) {y1 z1 : Opd} (hy : opd y = some y1) (hz : opd z = some z1)
  (hi : i = .idxs y1 z1) (hp : pureI σ (ev Γ T) i = some (p, x)) (hs : p) : Yields P o a w (own (cup σ τ)) x := by
 subst hi
 have h1 := ev_rep hpre hy
 have h2 := ev_rep hpre hz
 simp only [pureI] at hp
 split at hp
 ·rename_i s k n hb hn
  simp only [Option.some.injEq, Prod.mk.injEq] at hp
  obtain ⟨rfl, rfl⟩ := hp
  obtain ⟨h0, hlt⟩ := hs
  rw [hb] at h1; rw [hn] at h2
  have hlt' : n.toNat < s.length := by omega
  refine .same (v := .int .u8 ((s.getD n.toNat 0).toNat : Int)) ?_ (.int _ _)
  simp [execOp, ho, rep_str_inv h1, rep_int_inv h2, Instr.index, asIntOf, run_underlying ht, h0, bytes_get s hlt']
 ·simp at hp

theorem y_idxA (hpre : Pre Γ T σ τ w a) {t e : TypeId} {len : Nat} {d : TypeDesc} {y z : Operand} (ho : o.op = .index t y z) (ht : P.underlying t = some (.array len e)) (he : P.underlying e = some d) {y1 z1 : Opd} (hy : opd y = some y1) (hz : opd z = some z1)
  (hi : i = .idxA (isAggT P e) (P.cellsOf e) len y1 z1) (hp : pureI σ (ev Γ T) i = some (p, x)) (hs : p) : Yields P o a w (own (cup σ τ)) x := by
 subst hi
 obtain ⟨it, hit⟩ := underlying_info he
 have h1 := ev_rep hpre hy
 have h2 := ev_rep hpre hz
 simp only [pureI] at hp
 split at hp
 ·rename_i cs k n hb hn
  simp only [Option.some.injEq, Prod.mk.injEq] at hp
  obtain ⟨rfl, rfl⟩ := hp
  obtain ⟨h0, hlt, hin, h1'⟩ := hs
  rw [hb] at h1; rw [hn] at h2
  obtain ⟨vs, e1, hl, h1s, hr⟩ := rep_agg_inv h1
  obtain ⟨v, hv, hrep⟩ := run_part (P := P) he hl h1s hr (n.toNat * P.cellsOf e) _ rfl hin h1'
  refine .same (v := v) ?_ hrep
  simp [execOp, ho, e1, rep_int_inv h2, Instr.index, asIntOf, run_underlying ht, run_sizeOf hit, h0, hlt, hv]
 ·simp at hp

theorem y_ext (hpre : Pre Γ T σ τ w a) {n : Nat} {y : Operand} (ho : o.op = .extract y n) (hc : compI P o = some i) (hp : pureI σ (ev Γ T) i = some (p, x)) (hs : p) : Yields P o a w (own (cup σ τ)) x := by
 simp only [compI, ho, Option.map_eq_some_iff] at hc
 obtain ⟨q, hq, rfl⟩ := hc
 have h1 := ev_rep hpre hq
 simp only [pureI] at hp
 split at hp
 ·rename_i vs hb
  simp only [Option.some.injEq, Prod.mk.injEq] at hp
  obtain ⟨rfl, rfl⟩ := hp
  rw [hb] at h1
  generalize hv : a.eval y = v at h1
  cases h1 with
  | tup _ us hl hr =>
   have hx : vs[n]? = some (vs.getD n .undef) := by simp [List.getD, hs]
   have hu : n < us.size := by omega
   refine .same (v := us.getD n undef) ?_ (hr n _ hx)
   simp only [execOp, ho, hv, Instr.extract, aget_of_lt hu]
   rfl
 ·simp at hp

theorem y_len (hpre : Pre Γ T σ τ w a) {c : Call} {y : Operand} {t e : TypeId} (ho : o.op = .call c) (hcal : c.callee = .builtin .len) (hargs : c.args = #[y]) (htys : c.argTypes[0]? = some t) (ht : P.underlying t = some (.slice e))
  {y1 : Opd} (hy : opd y = some y1) (hi : i = .len y1) (hp : pureI σ (ev Γ T) i = some (p, x)) : Yields P o a w (own (cup σ τ)) x := by
 subst hi
 have h1 := ev_rep hpre hy
 simp only [pureI] at hp
 split at hp
 ·rename_i ex es xs hb
  simp only [Option.some.injEq, Prod.mk.injEq] at hp
  obtain ⟨_, rfl⟩ := hp
  rw [hb] at h1
  obtain ⟨ad, cp, e1, _⟩ := h1.isl_len
  refine .same (v := .int .i64 xs.length) ?_ (.int _ _)
  simp [execOp, ho, resolve, hcal, hargs, invoke, builtin, Builtin.len_, htys, run_underlying ht, e1, goInt]
 ·rename_i b es off len cap hb
  simp only [Option.some.injEq, Prod.mk.injEq] at hp
  obtain ⟨_, rfl⟩ := hp
  rw [hb] at h1
  obtain ⟨arr, e', fz, e1, _⟩ := rep_msl_inv h1
  refine .same (v := .int .i64 len) ?_ (.int _ _)
  simp [execOp, ho, resolve, hcal, hargs, invoke, builtin, Builtin.len_, htys, run_underlying ht, e1, goInt]
 ·simp at hp
theorem y_lens (hpre : Pre Γ T σ τ w a) {c : Call} {y : Operand} {t : TypeId} (ho : o.op = .call c) (hcal : c.callee = .builtin .len) (hargs : c.args = #[y]) (htys : c.argTypes[0]? = some t) (ht : P.underlying t = some .string)
  {y1 : Opd} (hy : opd y = some y1) (hi : i = .lens y1) (hp : pureI σ (ev Γ T) i = some (p, x)) : Yields P o a w (own (cup σ τ)) x := by
 subst hi
 have h1 := ev_rep hpre hy
 simp only [pureI] at hp
 split at hp
 ·rename_i s hb
  simp only [Option.some.injEq, Prod.mk.injEq] at hp
  obtain ⟨_, rfl⟩ := hp
  rw [hb] at h1
  refine .same (v := .int .i64 s.length) ?_ (.int _ _)
  simp [execOp, ho, resolve, hcal, hargs, invoke, builtin, Builtin.len_, htys, run_underlying ht, rep_str_inv h1, goInt, size_of_bytes]
 ·simp at hp
theorem y_cap (hpre : Pre Γ T σ τ w a) {c : Call} {y : Operand} {t e : TypeId} (ho : o.op = .call c) (hcal : c.callee = .builtin .cap) (hargs : c.args = #[y]) (htys : c.argTypes[0]? = some t) (ht : P.underlying t = some (.slice e))
  {y1 : Opd} (hy : opd y = some y1) (hi : i = .cap y1) (hp : pureI σ (ev Γ T) i = some (p, x)) : Yields P o a w (own (cup σ τ)) x := by
 subst hi
 have h1 := ev_rep hpre hy
 simp only [pureI] at hp
 split at hp
 ·rename_i b es off len cap hb
  simp only [Option.some.injEq, Prod.mk.injEq] at hp
  obtain ⟨_, rfl⟩ := hp
  rw [hb] at h1
  obtain ⟨arr, e', fz, e1, _⟩ := rep_msl_inv h1
  refine .same (v := .int .i64 cap) ?_ (.int _ _)
  simp [execOp, ho, resolve, hcal, hargs, invoke, builtin, Builtin.cap_, htys, run_underlying ht, e1, goInt]
 ·rename_i es xs hb
  simp only [Option.some.injEq, Prod.mk.injEq] at hp
  obtain ⟨_, rfl⟩ := hp
  rw [hb] at h1
  obtain ⟨ad, cp, e1, _, e2⟩ := h1.isl_len
  have e2 := e2 rfl
  subst e2
  refine .same (v := .int .i64 xs.length) ?_ (.int _ _)
  simp [execOp, ho, resolve, hcal, hargs, invoke, builtin, Builtin.cap_, htys, run_underlying ht, e1, goInt]
 ·simp at hp
theorem y_mx (hpre : Pre Γ T σ τ w a) {c : Call} {y z : Operand} (ho : o.op = .call c) (hcal : c.callee = .builtin .max) (hargs : c.args = #[y, z]) {y1 z1 : Opd} (hy : opd y = some y1) (hz : opd z = some z1)
  (hi : i = .mx y1 z1) (hp : pureI σ (ev Γ T) i = some (p, x)) (hs : p) : Yields P o a w (own (cup σ τ)) x := by
 subst hi
 have h1 := ev_rep hpre hy
 have h2 := ev_rep hpre hz
 simp only [pureI] at hp
 split at hp
 ·rename_i k m k' n hm hn
  simp only [Option.some.injEq, Prod.mk.injEq] at hp
  obtain ⟨rfl, rfl⟩ := hp
  subst hs
  rw [hm] at h1; rw [hn] at h2
  refine .same (v := .int k (if n > m then n else m)) ?_ (.int _ _)
  simp [execOp, ho, resolve, hcal, hargs, invoke, builtin, Builtin.max_, Builtin.max2, rep_int_inv h1, rep_int_inv h2]
 ·simp at hp
theorem y_mn (hpre : Pre Γ T σ τ w a) {c : Call} {y z : Operand} (ho : o.op = .call c) (hcal : c.callee = .builtin .min) (hargs : c.args = #[y, z]) {y1 z1 : Opd} (hy : opd y = some y1) (hz : opd z = some z1)
  (hi : i = .mn y1 z1) (hp : pureI σ (ev Γ T) i = some (p, x)) (hs : p) : Yields P o a w (own (cup σ τ)) x := by
 subst hi
 have h1 := ev_rep hpre hy
 have h2 := ev_rep hpre hz
 simp only [pureI] at hp
 split at hp
 ·rename_i k m k' n hm hn
  simp only [Option.some.injEq, Prod.mk.injEq] at hp
  obtain ⟨rfl, rfl⟩ := hp
  subst hs
  rw [hm] at h1; rw [hn] at h2
  refine .same (v := .int k (if n < m then n else m)) ?_ (.int _ _)
  simp [execOp, ho, resolve, hcal, hargs, invoke, builtin, Builtin.min_, Builtin.min2, rep_int_inv h1, rep_int_inv h2]
 ·simp at hp

end
end Go.Proofs.Ytdenfjbhkdhlkaa.Lg
