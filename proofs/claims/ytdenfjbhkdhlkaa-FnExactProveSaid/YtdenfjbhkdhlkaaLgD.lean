/- The own logic, part D: instruction by instruction: what the pure ones yield. It holds for every program. -/
import Derived.Test.YtdenfjbhkdhlkaaLgC
import Derived.Laws.Tables
set_option linter.unusedSimpArgs false
set_option linter.unusedVariables false
namespace Go.Proofs.Ytdenfjbhkdhlkaa.Lg
open Go

section
variable {P : Program} {Γ : St} {T : Ts} {σ τ : St} {w : World} {a : Act} {o : Oper} {i : I} {p : Prop} {x : V}

theorem y_move (hpre : Pre Γ T σ τ w a) {y : Operand} (ho : o.op = .move y ∨ o.op = .assign y) (hc : compI P o = some i) (hp : pureI σ (ev Γ T) i = some (p, x)) : Yields P o a w (own (cup σ τ)) x := by
 have hc' : (opd y).map I.mv = some i := by rcases ho with ho | ho <;> simpa [compI, ho] using hc
 simp only [Option.map_eq_some_iff] at hc'
 obtain ⟨q, hq, rfl⟩ := hc'
 simp only [pureI, Option.some.injEq, Prod.mk.injEq] at hp
 obtain ⟨_, rfl⟩ := hp
 refine .same (v := a.eval y) ?_ (ev_rep hpre hq)
 rcases ho with ho | ho <;> simp [execOp, ho]

theorem y_pick (hpre : Pre Γ T σ τ w a) {c y z : Operand} (ho : o.op = .pick c y z) (hc : compI P o = some i) (hp : pureI σ (ev Γ T) i = some (p, x)) : Yields P o a w (own (cup σ τ)) x := by
 simp only [compI, ho, Option.bind_eq_bind, Option.bind_eq_some_iff, Option.some.injEq] at hc
 obtain ⟨c1, hc1, y1, hy1, z1, hz1, rfl⟩ := hc
 simp only [pureI] at hp
 have h1 := ev_rep hpre hc1
 have h2 := ev_rep hpre hy1
 have h3 := ev_rep hpre hz1
 split at hp
 ·rename_i t ht
  simp only [Option.some.injEq, Prod.mk.injEq] at hp
  obtain ⟨_, rfl⟩ := hp
  rw [ht] at h1
  cases he : a.eval c <;> rw [he] at h1 <;> cases h1
  refine .same (v := if t then a.eval y else a.eval z) ?_ ?_
  ·simp [execOp, ho, he, asBool]
  ·cases t <;> simpa
 ·simp at hp

theorem y_load (hpre : Pre Γ T σ τ w a) {t : TypeId} {y : Operand} (ho : o.op = .load t y) (hty : ∃ d, P.underlying t = some d) (hc : compI P o = some i) (hp : pureI σ (ev Γ T) i = some (p, x)) (hs : p) : Yields P o a w (own (cup σ τ)) x := by
 obtain ⟨d, hd⟩ := hty
 have hok : okT P t = true := by simp [okT, hd]
 simp only [compI, ho, hok, if_true, Option.map_eq_some_iff] at hc
 obtain ⟨q, hq, rfl⟩ := hc
 have h1 := ev_rep hpre hq
 simp only [pureI] at hp
 split at hp
 ·rename_i b off hb
  rw [hb] at h1
  cases he : a.eval y <;> rw [he] at h1 <;> cases h1
  split at hp
  ·rename_i cs hcs
   simp only [Option.some.injEq, Prod.mk.injEq] at hp
   obtain ⟨rfl, rfl⟩ := hp
   obtain ⟨v, hv, hr⟩ := run_load_mem (hpre.sim.mem (cup_of_some hcs)) hd rfl off hs.1 hs.2
   rw [Nat.zero_add] at hv
   refine .same (v := v) ?_ hr
   simp [execOp, ho, he, Instr.loadAt, Instr.sureAddr, hv]
  ·simp at hp
 ·rename_i cs hb
  simp only [Option.some.injEq, Prod.mk.injEq] at hp
  obtain ⟨rfl, rfl⟩ := hp
  rw [hb] at h1
  cases he : a.eval y <;> rw [he] at h1 <;> cases h1
  rename_i b off cell hb' ho' hone hcell hr'
  obtain ⟨v, hv, hr⟩ := run_load_mem (Mem.of_cell hone hcell hr') hd rfl 0 (by simpa using hs.1) hs.2
  refine .same (v := v) ?_ (by simpa using hr)
  rw [Nat.add_zero] at hv
  simp [execOp, ho, he, Instr.loadAt, Instr.sureAddr, hv]
 ·simp at hp

theorem y_nilck (hpre : Pre Γ T σ τ w a) {y : Operand} (ho : o.op = .nilCheck y) (hc : compI P o = some i) (hp : pureI σ (ev Γ T) i = some (p, x)) : Yields P o a w (own (cup σ τ)) x := by
 simp only [compI, ho, Option.map_eq_some_iff] at hc
 obtain ⟨q, hq, rfl⟩ := hc
 have h1 := ev_rep hpre hq
 simp only [pureI] at hp
 split at hp
 ·rename_i b off hb
  simp only [Option.some.injEq, Prod.mk.injEq] at hp
  obtain ⟨_, rfl⟩ := hp
  rw [hb] at h1
  cases he : a.eval y <;> rw [he] at h1 <;> cases h1
  exact .same (v := .pointer (some ⟨b, off, none⟩)) (by simp [execOp, ho, he]) (.ptr b off)
 ·rename_i cs hb
  simp only [Option.some.injEq, Prod.mk.injEq] at hp
  obtain ⟨_, rfl⟩ := hp
  rw [hb] at h1
  cases he : a.eval y <;> rw [he] at h1 <;> cases h1
  rename_i b off cell hb' ho' hone hcell hr'
  exact .same (v := .pointer (some ⟨b, off, none⟩)) (by simp [execOp, ho, he]) (.iptr cs b off cell hb' ho' hone hcell hr')
 ·rename_i f cs hb
  simp only [Option.some.injEq, Prod.mk.injEq] at hp
  obtain ⟨_, rfl⟩ := hp
  rw [hb] at h1
  cases he : a.eval y <;> rw [he] at h1 <;> cases h1
  rename_i vs hl hr
  exact .same (v := .func (.func f) #[] vs) (by simp [execOp, ho, he]) (.fn f cs vs hl hr)
 ·simp at hp

theorem run_binInt {op : BinOp} {k : IntKind} {m n : Int} (hs : (binInt op k m n).1) (ty : TypeId) (w : World) : ∃ v, (Go.binOp op ty (.int k m) (.int k n)).run P w = .ok v w ∧ ∀ O, Rep w O (binInt op k m n).2 v := by
 cases op <;> simp only [binInt] at hs ⊢ <;> simp only [Go.binOp, ne_eq, not_true_eq_false, if_false, Op.intArith, Op.intCmp, Op.intDiv, Op.intBits, Op.shift, hs, Sem.run_pure, bitsV]
 case add => exact ⟨_, rfl, fun O => .int _ _⟩
 case sub => exact ⟨_, rfl, fun O => .int _ _⟩
 case mul => exact ⟨_, rfl, fun O => .int _ _⟩
 case quo => exact ⟨_, rfl, fun O => .int _ _⟩
 case rem => exact ⟨_, rfl, fun O => .int _ _⟩
 case and => exact ⟨_, rfl, fun O => .int _ _⟩
 case or => exact ⟨_, rfl, fun O => .int _ _⟩
 case xor => exact ⟨_, rfl, fun O => .int _ _⟩
 case andNot => exact ⟨_, rfl, fun O => .int _ _⟩
 case eql => exact ⟨_, rfl, fun O => .bool _⟩
 case neq => exact ⟨_, rfl, fun O => .bool _⟩
 case lss => exact ⟨_, rfl, fun O => .bool _⟩
 case leq => exact ⟨_, rfl, fun O => .bool _⟩
 case gtr => exact ⟨_, rfl, fun O => .bool _⟩
 case geq => exact ⟨_, rfl, fun O => .bool _⟩
 case shl => rw [if_neg (by omega)]; exact ⟨_, rfl, fun O => .int _ _⟩
 case shr => rw [if_neg (by omega)]; exact ⟨_, rfl, fun O => .int _ _⟩
theorem run_shift {op : BinOp} (hop : op = .shl ∨ op = .shr) {k k' : IntKind} {m n : Int} (hs : (binInt op k m n).1) (ty : TypeId) (w : World) : ∃ v, (Go.binOp op ty (.int k m) (.int k' n)).run P w = .ok v w ∧ ∀ O, Rep w O (binInt op k m n).2 v := by
 rcases hop with rfl | rfl <;> simp only [binInt] at hs ⊢ <;> simp only [Go.binOp, Op.shift] <;> rw [if_neg (by omega)] <;> exact ⟨_, rfl, fun O => .int _ _⟩

theorem run_eqGuard_plain {op : BinOp} {ty : TypeId} {y z : Operand} {u v : Value} (h1 : ∀ cs, u ≠ .agg cs) (h2 : u ≠ .nilIface) (w : World) : (eqGuard op ty y z u v).run P w = .ok () w := by
 unfold eqGuard
 cases op <;> first | rfl | (cases u <;> first | exact absurd rfl h2 | exact absurd rfl (h1 _) | (cases v <;> rfl))

theorem list_of_bytes (s : List UInt8) : (⟨s.toArray⟩ : ByteArray).toList = s := by rw [ByteArray.toList_eq]
theorem size_of_bytes (s : List UInt8) : (⟨s.toArray⟩ : ByteArray).size = s.length := by simp [ByteArray.size]
theorem append_bytes (s t : List UInt8) : (⟨s.toArray⟩ : ByteArray) ++ (⟨t.toArray⟩ : ByteArray) = ⟨(s ++ t).toArray⟩ := by
 apply ByteArray.ext; simp
theorem run_binStr {op : BinOp} {s t : List UInt8} {q : Prop × V} (hq : binStr op s t = some q) (hs : q.1) (ty : TypeId) (w : World) : ∃ v, (Go.binOp op ty (.string ⟨s.toArray⟩) (.string ⟨t.toArray⟩)).run P w = .ok v w ∧ ∀ O, Rep w O q.2 v := by
 cases op <;> simp only [binStr, Option.some.injEq, reduceCtorEq] at hq <;> subst hq <;> simp only [Go.binOp, Op.stringOp, list_of_bytes, size_of_bytes]
 case add =>
  have hb : ¬ (((s.length + t.length : Nat) : Int) > IntKind.i64.max) := by
   have : s.length + t.length ≤ 140737488355328 := hs
   have e : IntKind.i64.max = 9223372036854775807 := by decide
   rw [e]; omega
  rw [if_neg hb, append_bytes]; exact ⟨_, rfl, fun O => .str _⟩
 case eql => exact ⟨_, rfl, fun O => .bool _⟩
 case neq => exact ⟨_, rfl, fun O => .bool _⟩
 case lss => exact ⟨_, rfl, fun O => .bool _⟩

theorem run_binV {ty : TypeId} {O : Nat → Prop} {op : BinOp} {u v : V} {y z : Value} {q : Prop × V} (hu : Rep w O u y) (hv : Rep w O v z) (hq : binV op u v = some q) (hs : q.1) :
  ∃ r, (Go.binOp op ty y z).run P w = .ok r w ∧ Rep w O q.2 r := by
 cases hu <;> cases hv <;> simp only [binV, reduceCtorEq] at hq
 case int.int k m k' n =>
  by_cases hsh : op = .shl ∨ op = .shr
  ·have e : q = binInt op k m n := by rcases hsh with rfl | rfl <;> simpa using hq.symm
   subst e
   obtain ⟨r, h1, h2⟩ := run_shift (P := P) hsh (k' := k') hs ty w
   exact ⟨r, h1, h2 O⟩
  ·have e : q = (k = k' ∧ (binInt op k m n).1, (binInt op k m n).2) := by
    cases op <;> first | (simp at hsh; done) | simpa using hq.symm
   subst e
   obtain ⟨rfl, hs'⟩ := hs
   obtain ⟨r, h1, h2⟩ := run_binInt (P := P) hs' ty w
   exact ⟨r, h1, h2 O⟩
 case str.str s t =>
  obtain ⟨r, h1, h2⟩ := run_binStr (P := P) hq hs ty w
  exact ⟨r, h1, h2 O⟩

end
end Go.Proofs.Ytdenfjbhkdhlkaa.Lg
