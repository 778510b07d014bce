/- The own logic: slices that grow, and slices that are made. It holds for every program. -/
import Derived.Test.YtdenfjbhkdhlkaaLgY
import Derived.Laws.MakeOwn
import Derived.Laws.AppendOwn
set_option linter.unusedSimpArgs false
set_option linter.unusedVariables false
namespace Go.Proofs.Ytdenfjbhkdhlkaa.Lg
open Go

section
variable {P : Program} {Γ : St}

theorem run_storeCells_raw {b off : Nat} {e : TypeId} {fz : Nat × Nat} : ∀ (vs : List Value) (i : Nat) (arr : Array Value) (w : World), w.heap[b]? = some (.cells arr e fz) → off + i + vs.length ≤ arr.size → (∀ v ∈ vs, v.oneCell' = true) → (∀ j, j < arr.size → ¬ (fz.1 ≤ j ∧ j < fz.2)) →
  ∃ w' arr', (storeCells ⟨b, off, none⟩ vs i).run P w = .ok () w' ∧ w'.heap[b]? = some (.cells arr' e fz) ∧ arr'.size = arr.size ∧ (∀ n, n ≠ b → w'.heap[n]? = w.heap[n]?) ∧ w'.heap.size = w.heap.size ∧
   (∀ j, j < off + i ∨ off + i + vs.length ≤ j → arr'.getD j undef = arr.getD j undef) ∧ (∀ j, j < vs.length → arr'.getD (off + i + j) undef = vs.getD j undef) ∧ SameIO w w' := by
 intro vs
 induction vs with
 | nil => intro i arr w hb _ _ _; exact ⟨w, arr, by simp [storeCells], hb, rfl, fun _ _ => rfl, rfl, fun _ _ => rfl, fun j hj => (by simp at hj), rfl, rfl, rfl, Nat.le_refl _⟩
 | cons v vs ih =>
  intro i arr w hb hl h1 hf
  simp only [List.length_cons] at hl
  have ho : off + i < arr.size := by omega
  have hcell : w.cell? ⟨b, off + i, none⟩ = some (arr.getD (off + i) undef) := by simp only [World.cell?, hb, Option.isSome_none, Bool.false_eq_true, if_false]; exact aget_of_lt ho
  have hfz : w.frozen? ⟨b, off + i, none⟩ = false := by
   have := hf (off + i) ho
   simp only [World.frozen?, hb]
   simpa using this
  obtain ⟨k1, k2, k3⟩ := setCell_heap (o := off + i) (v := v) hb
  obtain ⟨w', arr', s1, s2, s3, s4, s5, s6, s7, s8⟩ := ih (i + 1) (arr.setIfInBounds (off + i) v) (w.setCell ⟨b, off + i, none⟩ v) k1 (by simp; omega) (fun u hu => h1 u (by simp [hu])) (fun j hj => hf j (by simpa using hj))
  refine ⟨w', arr', ?_, s2, by simpa using s3, fun n hn => (s4 n hn).trans (k2 n hn), s5.trans k3, fun j hj => ?_, fun j hj => ?_, s8.1, s8.2.1, s8.2.2⟩
  ·have hst : (store ⟨b, off + i, none⟩ v).run P w = .ok () (w.setCell ⟨b, off + i, none⟩ v) := by
    rw [run_store P w _ v _ (h1 v (by simp)), hcell]; simp [hfz]
   simp [storeCells, addr_add, hst, s1]
  ·rw [s6 j (by simp only [List.length_cons] at hj; omega)]
   have hne : off + i ≠ j := by simp only [List.length_cons] at hj; omega
   simp [Array.getD_eq_getD_getElem?, Array.getElem?_setIfInBounds_ne hne]
  ·cases j with
   | zero =>
    rw [Nat.add_zero, s6 (off + i) (by omega)]
    simp [Array.getD_eq_getD_getElem?, ho]
   | succ j =>
    simp only [List.length_cons] at hj
    have := s7 j (by omega)
    rw [show off + i + (j + 1) = off + (i + 1) + j by omega, this]; simp

/-- What is appended: its cells, and how many elements. -/
def srcV (σ : St) (es : Nat) : V → Option (List V × Nat)
 | .isl _ es' xs => if xs = [] ∨ es' = es then some (flat xs, xs.length) else none
 | .msl b es' off len _ => if es' = es then (match σ b with | some cs => if off + len * es ≤ cs.length then some ((cs.drop off).take (len * es), len) else none | none => none) else none
 | .str s => if es = 1 then some (s.map fun c => .int .u8 (c.toNat : Int), s.length) else none
 | _ => none
theorem src_ok {σ τ : St} {w : World} {es : Nat} {x : V} {v : Value} {new : List V} {m : Nat} (hs : Sim (cup σ τ) w) (hr : Rep w (own (cup σ τ)) x v) (h : srcV σ es x = some (new, m)) :
  new.length = m * es ∧ (Builtin.lenOf v).run P w = .ok m w ∧ ∃ vs : Array Value, (∀ w1, w1.heap = w.heap → (Builtin.firstCells es m v).run P w1 = .ok vs w1) ∧ new.length = vs.size ∧ ∀ (i : Nat) (y : V), new[i]? = some y → y.one = true ∧ Rep w (own (cup σ τ)) y (vs.getD i undef) := by
 have main : ∀ {b off len cap : Nat} {new : List V}, Mem w (own (cup σ τ)) new b off → new.length = len * es → ∃ vs : Array Value, (∀ w1, w1.heap = w.heap → (Builtin.firstCells es len (.slice (some ⟨b, off, none⟩) len cap)).run P w1 = .ok vs w1) ∧ new.length = vs.size ∧ ∀ (i : Nat) (y : V), new[i]? = some y → y.one = true ∧ Rep w (own (cup σ τ)) y (vs.getD i undef) := by
  intro b off len cap new hm hl
  let f : Nat → Value := fun j => (w.cell? ⟨b, off + j, none⟩).getD undef
  refine ⟨((List.range (len * es)).map f).toArray, fun w1 hw1 => ?_, by simp [hl], fun i y hy => ?_⟩
  ·have hc : ∀ j, j < len * es → w1.cell? ((⟨b, off, none⟩ : Addr).add j) = some (f j) := by
    intro j hj
    rw [addr_add]
    have hlt : j < new.length := by omega
    obtain ⟨_, v, h2, _⟩ := hm j new[j] (by simp)
    have : w1.cell? ⟨b, off + j, none⟩ = w.cell? ⟨b, off + j, none⟩ := by simp [World.cell?, hw1]
    rw [this]; simp only [f, h2, Option.getD_some]
   simp only [Builtin.firstCells]
   exact run_loadCells w1 _ _ f hc
  ·obtain ⟨h1, v, h2, h3⟩ := hm i y hy
   have hlt : i < len * es := by have := (List.getElem?_eq_some_iff.1 hy).1; omega
   refine ⟨h1, ?_⟩
   have : ((List.range (len * es)).map f).toArray.getD i undef = v := by simp [Array.getD_eq_getD_getElem?, hlt, f, h2]
   rw [this]; exact h3
 cases x <;> simp only [srcV] at h <;> try (cases h; done)
 case isl ex es' xs =>
  split at h
  case isFalse => cases h
  case isTrue hc =>
  simp only [Option.some.injEq, Prod.mk.injEq] at h
  obtain ⟨rfl, rfl⟩ := h
  by_cases hx : xs = []
  ·subst hx
   obtain ⟨a, c, rfl, _⟩ := hr.isl_len
   refine ⟨by simp [flat], by simp [Builtin.lenOf], #[], fun w1 _ => ?_, by simp [flat], fun i y hy => by simp [flat] at hy⟩
   cases a <;> simp [Builtin.firstCells, loadCells, loadCellsFrom]
  ·obtain rfl := hc.resolve_left hx
   obtain ⟨b, off, c, rfl, h1, h2, h3, h4, h5, h6⟩ := hr.isl_mem hx
   exact ⟨flat_length h3, by simp [Builtin.lenOf], main h6 (flat_length h3)⟩
 case msl b es' off len cap =>
  split at h
  case isFalse => cases h
  case isTrue he =>
  subst he
  split at h
  ·rename_i cs hcs
   split at h
   case isFalse => cases h
   case isTrue hle =>
   simp only [Option.some.injEq, Prod.mk.injEq] at h
   obtain ⟨rfl, rfl⟩ := h
   obtain ⟨arr, e, fz, rfl, h1, h2, h3⟩ := rep_msl_inv hr
   have hm := (hs.mem (cup_of_some (τ := τ) hcs)).part off (len * es')
   rw [Nat.zero_add] at hm
   have hl : ((cs.drop off).take (len * es')).length = len * es' := by simp; omega
   exact ⟨hl, by simp [Builtin.lenOf], main hm hl⟩
  ·cases h
 case str s =>
  split at h
  case isFalse => cases h
  case isTrue he =>
  subst he
  simp only [Option.some.injEq, Prod.mk.injEq] at h
  obtain ⟨rfl, rfl⟩ := h
  have := rep_str_inv hr
  subst this
  refine ⟨by simp, by simp [Builtin.lenOf, size_of_bytes], (s.map fun c => Value.int .u8 (c.toNat : Int)).toArray, fun w1 _ => ?_, by simp, fun i y hy => ?_⟩
  ·have : (⟨s.toArray⟩ : ByteArray).extract 0 s.length = ⟨s.toArray⟩ := by
    apply ByteArray.ext
    simp [ByteArray.data_extract]
   simp [Builtin.firstCells, this]
  ·rw [List.getElem?_map, Option.map_eq_some_iff] at hy
   obtain ⟨c, hc, rfl⟩ := hy
   refine ⟨rfl, ?_⟩
   have : (s.map fun c => Value.int .u8 (c.toNat : Int)).toArray.getD i undef = .int .u8 (c.toNat : Int) := by
    simp [Array.getD_eq_getD_getElem?, hc]
   rw [this]; exact .int _ _

theorem inv_app {o : Oper} {es by_ : Nat} {s x : Opd} (hc : compI P o = some (.app es by_ s x)) : ∃ c u v t1 t2 e z, o.op = .call c ∧ c.callee = .builtin .append ∧ c.args = #[u, v] ∧ c.argTypes[0]? = some t1 ∧ P.underlying t1 = some (.slice e) ∧ c.argTypes[1]? = some t2 ∧
  ((∃ e2, P.underlying t2 = some (.slice e2)) ∨ P.underlying t2 = some .string) ∧ es = P.cellsOf e ∧ by_ = P.bytesOf e ∧ es ≠ 0 ∧ by_ ≠ 0 ∧ by_ ≤ 1000 ∧ zeroOf P e = some z ∧ z.length = es ∧ opd u = some s ∧ opd v = some x := by
 cases ho : o.op with
 | call c =>
  obtain ⟨callee, as, tys⟩ := c
  simp only [compI, ho] at hc
  cases callee with
  | builtin b =>
   cases b <;> simp only [reduceCtorEq] at hc <;> try ((repeat' split at hc) <;> first | (simp at hc; done) | (simp only [Option.map_eq_some_iff, Option.bind_eq_bind, Option.bind_eq_some_iff, Option.some.injEq, reduceCtorEq, and_false, exists_false] at hc; done))
   case append =>
    have fin : ∀ (t1 t2 e : TypeId) (u v : Operand), as.toList = [u, v] → tys[0]? = some t1 → P.underlying t1 = some (.slice e) → tys[1]? = some t2 → ((∃ e2, P.underlying t2 = some (.slice e2)) ∨ P.underlying t2 = some .string) →
      (if (decide (P.cellsOf e = 0) || decide (P.bytesOf e = 0) || decide (P.bytesOf e > 1000) || Option.map List.length (zeroOf P e) != some (P.cellsOf e)) = true then none else (do some (.app (P.cellsOf e) (P.bytesOf e) (← opd u) (← opd v))) : Option I) = some (.app es by_ s x) →
      ∃ c u v t1 t2 e z, Op.call { callee := .builtin .append, args := as, argTypes := tys } = .call c ∧ c.callee = .builtin .append ∧ c.args = #[u, v] ∧ c.argTypes[0]? = some t1 ∧ P.underlying t1 = some (.slice e) ∧ c.argTypes[1]? = some t2 ∧
      ((∃ e2, P.underlying t2 = some (.slice e2)) ∨ P.underlying t2 = some .string) ∧ es = P.cellsOf e ∧ by_ = P.bytesOf e ∧ es ≠ 0 ∧ by_ ≠ 0 ∧ by_ ≤ 1000 ∧ zeroOf P e = some z ∧ z.length = es ∧ opd u = some s ∧ opd v = some x := by
     intro t1 t2 e u v h1 h2 h3 h4 h5 h6
     split at h6
     case isTrue => cases h6
     case isFalse hn =>
     simp only [Bool.or_eq_true, decide_eq_true_eq, bne_iff_ne, ne_eq, not_or, Classical.not_not] at hn
     simp only [Option.bind_eq_bind, Option.bind_eq_some_iff, Option.some.injEq, I.app.injEq] at h6
     obtain ⟨s', hs', x', hx', rfl, rfl, rfl, rfl⟩ := h6
     obtain ⟨z, hz, hzl⟩ := Option.map_eq_some_iff.1 hn.2
     exact ⟨_, u, v, t1, t2, e, z, rfl, rfl, by simpa using congrArg List.toArray h1, h2, h3, h4, h5, rfl, rfl, hn.1.1.1, hn.1.1.2, by have := hn.1.2; omega, hz, hzl, hs', hx'⟩
    split at hc
    ·rename_i u v e e2 h1 h2 h3
     obtain ⟨t1, g1, g2⟩ := Option.bind_eq_some_iff.1 h2
     obtain ⟨t2, g3, g4⟩ := Option.bind_eq_some_iff.1 h3
     exact fin t1 t2 e u v h1 g1 g2 g3 (.inl ⟨_, g4⟩) hc
    ·rename_i u v e h1 h2 h3
     obtain ⟨t1, g1, g2⟩ := Option.bind_eq_some_iff.1 h2
     obtain ⟨t2, g3, g4⟩ := Option.bind_eq_some_iff.1 h3
     exact fin t1 t2 e u v h1 g1 g2 g3 (.inr g4) hc
    ·exfalso
     split at hc
     ·cases hc
     ·simp only [Option.bind_eq_bind, Option.bind_eq_some_iff, Option.some.injEq, reduceCtorEq, and_false, exists_false] at hc
    ·cases hc
  | value u => simp only [Option.bind_eq_bind, Option.bind_eq_some_iff, Option.some.injEq, reduceCtorEq, and_false, exists_false] at hc
  | invoke r m => simp at hc
 | _ => exfalso; simp only [compI, ho] at hc; (repeat' split at hc) <;> first | (simp at hc; done) | (simp only [Option.bind_eq_bind, Option.bind_eq_some_iff] at hc; obtain ⟨fd, _, hc⟩ := hc; split at hc <;> first | (simp at hc; done) | (simp only [Option.bind_eq_some_iff, Option.some.injEq, reduceCtorEq, and_false, exists_false] at hc; done)) | (simp only [Option.map_eq_some_iff, Option.bind_eq_bind, Option.bind_eq_some_iff, Option.some.injEq, reduceCtorEq, and_false, exists_false] at hc; done) | (simp_all; done)
theorem drew_heap (w : World) : w.drew.heap = w.heap := rfl
theorem Sim.fresh2 {σ τ : St} {w : World} (h : Sim (cup σ τ) w) : σ w.heap.size = none ∧ τ w.heap.size = none := by
 have hfr := h.fresh
 have hσ : σ w.heap.size = none := by
  cases hs : σ w.heap.size with
  | none => rfl
  | some cs => rw [cup_of_some hs] at hfr; cases hfr
 exact ⟨hσ, by simpa [cup, hσ] using hfr⟩

theorem run_grow {w : World} {t1 t2 ty e : TypeId} {it : TypeInfo} {z : Value} {base : Option Addr} {sLen sCap m : Nat} {xv : Value} {olds news : Array Value} (h1 : P.underlying t1 = some (.slice e)) (h2 : (∃ e2, P.underlying t2 = some (.slice e2)) ∨ P.underlying t2 = some .string)
  (hi : P.info? e = some it) (hz : it.zero = some z) (hb : it.bytes ≠ 0) (hlen : (Builtin.lenOf xv).run P w = .ok m w) (hold : ∀ w1, w1.heap = w.heap → (Builtin.firstCells it.size sLen (.slice base sLen sCap)).run P w1 = .ok olds w1) (hnew : ∀ w1, w1.heap = w.heap → (Builtin.firstCells it.size m xv).run P w1 = .ok news w1)
  (hg : sCap < sLen + m) (hfit : (sLen + m) * it.bytes ≤ 140737488355328) :
  ∃ rest cap', (Builtin.append_ #[t1, t2] ty #[.slice base sLen sCap, xv]).run P w = .ok (.slice (some ⟨w.heap.size, 0, none⟩) (sLen + m) cap') (w.drew.alloc (.cells (olds ++ news ++ rest) e)) ∧ sLen + m ≤ cap' ∧ rest.size = (cap' - (sLen + m)) * z.cells.size := by
 have hn : ¬ (sLen + m ≤ sCap) := by omega
 have hbig : sLen + m ≤ 140737488355328 := Nat.le_trans (Nat.le_mul_of_pos_right _ (Nat.pos_of_ne_zero hb)) hfit
 have h63' : ¬ (9223372036854775807 < ((sLen : Int) + (m : Int))) := by omega
 have h48' : ¬ (281474976710656 < Builtin.nextslicecap (sLen + m) sCap * it.bytes) := by have := growslice_fits hg hfit; omega
 refine ⟨Builtin.zeroCells z.cells (grownCap w (sLen + m) sCap e - (sLen + m)), grownCap w (sLen + m) sCap e, ?_, grownCap_ge w _ _ _, size_zeroCells _ _⟩
 have hf := hnew w.drew rfl
 have hfo := hold w.drew rfl
 rcases h2 with ⟨e2, h2⟩ | h2 <;>
  (simp [Builtin.append_, run_underlying h1, run_underlying h2, sizeOf, typeInfo, zeroValue, hi, hz, hlen, hn, h63', h48', hb, Question.forced, hf, hfo, newRow, grownCap])

theorem run_room {w w' : World} {t1 t2 ty e : TypeId} {it : TypeInfo} {b off sLen sCap m : Nat} {xv : Value} {news : Array Value} (h1 : P.underlying t1 = some (.slice e)) (h2 : (∃ e2, P.underlying t2 = some (.slice e2)) ∨ P.underlying t2 = some .string)
  (hi : P.info? e = some it) (hlen : (Builtin.lenOf xv).run P w = .ok m w) (hnew : ∀ w1, w1.heap = w.heap → (Builtin.firstCells it.size m xv).run P w1 = .ok news w1) (hg : sLen + m ≤ sCap) (hst : (storeCells ⟨b, off + sLen * it.size, none⟩ news.toList 0).run P w = .ok () w') :
  (Builtin.append_ #[t1, t2] ty #[.slice (some ⟨b, off, none⟩) sLen sCap, xv]).run P w = .ok (.slice (some ⟨b, off, none⟩) (sLen + m) sCap) w' := by
 have hf := hnew w rfl
 rcases h2 with ⟨e2, h2⟩ | h2 <;>
  simp [Builtin.append_, run_underlying h1, run_underlying h2, sizeOf, typeInfo, hi, hlen, hg, hf, addr_add, hst]
theorem run_room_none {w : World} {t1 t2 ty e : TypeId} {it : TypeInfo} {sLen sCap : Nat} {xv : Value} {news : Array Value} (h1 : P.underlying t1 = some (.slice e)) (h2 : (∃ e2, P.underlying t2 = some (.slice e2)) ∨ P.underlying t2 = some .string)
  (hi : P.info? e = some it) (hlen : (Builtin.lenOf xv).run P w = .ok 0 w) (hnew : ∀ w1, w1.heap = w.heap → (Builtin.firstCells it.size 0 xv).run P w1 = .ok news w1) (hg : sLen ≤ sCap) :
  (Builtin.append_ #[t1, t2] ty #[.slice none sLen sCap, xv]).run P w = .ok (.slice none sLen sCap) w := by
 have hf := hnew w rfl
 rcases h2 with ⟨e2, h2⟩ | h2 <;>
  simp [Builtin.append_, run_underlying h1, run_underlying h2, sizeOf, typeInfo, hi, hlen, hg, hf]

theorem getD3 {a b c : Array Value} {i : Nat} : (a ++ b ++ c).getD i undef = if i < a.size then a.getD i undef else if i < a.size + b.size then b.getD (i - a.size) undef else c.getD (i - a.size - b.size) undef := by
 by_cases h1 : i < a.size
 ·rw [if_pos h1, Array.append_assoc, getD_append_left h1]
 ·rw [if_neg h1]
  by_cases h2 : i < a.size + b.size
  ·rw [if_pos h2, getD_append_left (by simp; omega), getD_append_right (by omega)]
  ·rw [if_neg h2, getD_append_right (by simp; omega)]; simp [Nat.sub_sub]

/-- What is appended to: its cells, its length. -/
inductive Base (σ : St) (es : Nat) : V → List V → Nat → Prop
 | isl (xs : List V) (es' : Nat) : (xs = [] ∨ es' = es) → Base σ es (.isl true es' xs) (flat xs) xs.length
 | msl (b len cap : Nat) (cs : List V) : σ b = some cs → len * es ≤ cs.length → Base σ es (.msl b es 0 len cap) (cs.take (len * es)) len
/-- The block that is no longer needed. -/
def baseDel (σ : St) : V → St
 | .msl b _ _ _ _ => del σ b
 | _ => σ

theorem InsOK.app {es by_ : Nat} {s x : Opd} {T : Ts} {σ : St} {G : V → St → Prop} {old new : List V} {sLen m : Nat} (hb : Base σ es (ev Γ T s) old sLen) (hsrc : srcV σ es (ev Γ T x) = some (new, m)) (hfit : (sLen + m) * by_ ≤ 140737488355328)
  (hG : ∀ b cap, baseDel σ (ev Γ T s) b = none → sLen + m ≤ cap → G (.msl b es 0 (sLen + m) cap) (upd (baseDel σ (ev Γ T s)) b (old ++ new))) (h0 : m = 0 → ∀ ex es' xs, ev Γ T s = .isl ex es' xs → G (.isl ex es' xs) σ) : InsOK P Γ (.app es by_ s x) T σ G := by
 intro o hc τ w a hpre
 obtain ⟨c, u, v, t1, t2, e, z, ho, hcal, hargs, ht1, hu1, ht2, hu2, hese, hbye, hes, hby, hby2, hz, hzl, hs, hx⟩ := inv_app hc
 obtain ⟨it, zv, hit, hiz, hzr⟩ := zero_ok (w := w) (O := own (cup σ τ)) hz
 obtain rfl : es = it.size := hese.trans (by simp [Program.cellsOf, hit])
 obtain rfl : by_ = it.bytes := hbye.trans (by simp [Program.bytesOf, hit])
 have r1 := ev_rep hpre hs
 generalize hgs : ev Γ T s = sv at hb r1 hG h0
 have r2 := ev_rep hpre hx
 obtain ⟨hnl, hlen, vs, hfc, hvl, hvr⟩ := src_ok hpre.sim r2 hsrc
 have hats : ∃ ats', c.argTypes = #[t1, t2] ++ ats' := by
  refine ⟨c.argTypes.extract 2 c.argTypes.size, ?_⟩
  apply Array.ext'
  rw [← Array.getElem?_toList] at ht1 ht2
  simp only [Array.toList_append, Array.toList_extract]
  cases hl : c.argTypes.toList with
  | nil => rw [hl] at ht1; simp at ht1
  | cons p q =>
   cases q with
   | nil => rw [hl] at ht2; simp at ht2
   | cons p2 q2 =>
    rw [hl] at ht1 ht2
    simp at ht1 ht2
    subst ht1 ht2
    have hz2 : c.argTypes.size = (p :: p2 :: q2).length := by rw [← hl]; simp
    simp [List.extract, hz2]
 have happ : ∀ (as : Array Value), Builtin.append_ c.argTypes o.type as = Builtin.append_ #[t1, t2] o.type as := by
  intro as
  unfold Builtin.append_
  rw [ht1, ht2]
  simp
 have hexec : ∀ (val : Value) (w' : World), (Builtin.append_ #[t1, t2] o.type #[a.eval u, a.eval v]).run P w = .ok val w' → (execOp a.eval o).run P w = .ok (.value val) w' := by
  intro val w' h
  rw [← happ] at h
  simp [execOp, ho, resolve, hcal, hargs, invoke, builtin, h]
 -- a new row
 have grow : ∀ (base : Option Addr) (sCap : Nat), a.eval u = .slice base sLen sCap → sCap < sLen + m → (∀ olds' : List V, olds' = old → ∃ ovs : Array Value, (∀ w1, w1.heap = w.heap → (Builtin.firstCells it.size sLen (.slice base sLen sCap)).run P w1 = .ok ovs w1) ∧ old.length = ovs.size ∧ ∀ (i : Nat) (y : V), old[i]? = some y → y.one = true ∧ Rep w (own (cup σ τ)) y (ovs.getD i undef)) →
   o.wp P a w (fun a' w' => ∃ x v σ', a' = a.put o.dst v ∧ G x σ' ∧ Post σ τ w x v σ' w') (fun _ _ _ => False) := by
  intro base sCap hev hg hold
  obtain ⟨ovs, ho1, ho2, ho3⟩ := hold old rfl
  obtain ⟨rest, cap', hrun, hcap, hrest⟩ := run_grow (ty := o.type) hu1 hu2 hit hiz hby hlen ho1 hfc hg hfit
  rw [← hev] at hrun
  unfold Oper.wp
  rw [hexec _ _ hrun]
  have hfr := hpre.sim.fresh2
  -- what is owned now
  have hle : ∀ b cs, baseDel σ (sv) b = some cs → σ b = some cs := by
   intro b cs h
   cases sv <;> simp only [baseDel] at h <;> try exact h
   unfold del at h
   split at h
   ·cases h
   ·exact h
  have hsim' : Sim (cup (baseDel σ (sv)) τ) w := by
   refine hpre.sim.less fun b cs h => ?_
   unfold cup at *
   cases hb1 : baseDel σ (sv) b with
   | none =>
    rw [hb1] at h
    have := hpre.dj.symm_none h
    rw [this]; exact h
   | some cs' => rw [hb1] at h; rw [hle b cs' hb1]; exact h
  have hown : ∀ b, own (cup (baseDel σ (sv)) τ) b → own (cup σ τ) b := by
   intro b hb
   unfold own cup at *
   cases hb1 : baseDel σ (sv) b with
   | none => rw [hb1] at hb; cases hb2 : σ b <;> simp_all
   | some cs' => rw [hle b cs' hb1]; simp
  have hnone : baseDel σ (sv) w.heap.size = none := by
   cases hb1 : baseDel σ (sv) w.heap.size with
   | none => rfl
   | some cs' => have := hle _ _ hb1; rw [hfr.1] at this; cases this
  obtain ⟨s1, s2⟩ := Sim.new (w' := w.drew.alloc (.cells (ovs ++ vs ++ rest) e)) (cs := old ++ new) hsim' rfl (by simp; omega) (fun i y hy => by
   rw [getD3]
   rcases Nat.lt_or_ge i old.length with h1 | h1
   ·rw [List.getElem?_append_left h1] at hy
    rw [if_pos (by omega)]
    obtain ⟨g1, g2⟩ := ho3 i y hy
    exact ⟨g1, g2.less hown⟩
   ·rw [List.getElem?_append_right h1] at hy
    have h2 := (List.getElem?_eq_some_iff.1 hy).1
    rw [if_neg (by omega), if_pos (by omega), ← ho2]
    obtain ⟨g1, g2⟩ := hvr _ y hy
    exact ⟨g1, g2.less hown⟩)
  have hk : Keep w (w.drew.alloc (.cells (ovs ++ vs ++ rest) e)) (own (cup σ τ)) (own (cup (upd (baseDel σ (sv)) w.heap.size (old ++ new)) τ)) := by
   refine (Keep.push rfl).ownNew (b := w.heap.size) (fun n hn => ?_) (Nat.le_refl _)
   rw [cup_upd, own_upd] at hn
   exact hn.symm.imp (hown n) id
  refine ⟨.msl w.heap.size it.size 0 (sLen + m) cap', _, _, rfl, hG _ _ hnone hcap, ?_, by rw [cup_upd]; exact s1, ?_, hk⟩
  ·refine disj_upd (fun b => ?_) hfr.2
   cases hb1 : baseDel σ (sv) b with
   | none => exact .inl rfl
   | some cs' => exact .inr (hpre.dj.other (hle b cs' hb1))
  ·refine .msl _ _ _ _ _ (ovs ++ vs ++ rest) e (0, 0) (heap_alloc_new w.drew _) ?_ hcap
   have e1 : old.length = sLen * it.size := by
    cases hb with
    | isl xs es' he =>
     rcases he with rfl | rfl
     ·simp [flat]
     ·by_cases hx : xs = []
      ·subst hx; simp [flat]
      ·obtain ⟨_, _, _, _, _, _, h3, _⟩ := r1.isl_mem hx
       exact flat_length h3
    | msl b len cap cs hcs hle => simp; omega
   have e2 : zv.cells.size = it.size := by rw [← hzr.1, hzl]
   simp only [Array.size_append, hrest, e2]
   rw [← ho2, ← hvl, e1, hnl, ← Nat.add_mul, ← Nat.add_mul]
   have : sLen + m + (cap' - (sLen + m)) = cap' := by omega
   rw [this]; omega
 cases hb with
 | isl xs es' he =>
  obtain ⟨ad, cp, hev, h1, h2⟩ := r1.isl_len
  obtain rfl := h2 rfl
  by_cases hm : m = 0
  ·subst hm
   have hn : new = [] := List.eq_nil_of_length_eq_zero (by simpa using hnl)
   have hrun : (Builtin.append_ #[t1, t2] o.type #[.slice ad xs.length xs.length, a.eval v]).run P w = .ok (.slice ad xs.length xs.length) w := by
    cases ad with
    | none => exact run_room_none hu1 hu2 hit hlen hfc (Nat.le_refl _)
    | some p =>
     obtain ⟨pb, po, pp⟩ := p
     have hvs : vs.toList = [] := by
      have : vs.size = 0 := by rw [← hvl, hn]; rfl
      simpa using this
     have hf := hfc w rfl
     rcases hu2 with ⟨e2, hu2⟩ | hu2 <;>
      simp [Builtin.append_, run_underlying hu1, run_underlying hu2, sizeOf, typeInfo, hit, hlen, hf, hvs, storeCells]
   unfold Oper.wp
   rw [hexec _ _ (by rw [hev]; exact hrun)]
   exact ⟨_, _, σ, rfl, h0 rfl _ _ _ rfl, hpre.dj, hpre.sim, by rw [← hev]; exact r1, .refl _ _⟩
  ·refine grow ad xs.length hev (by omega) fun olds' _ => ?_
   have hsv : srcV σ it.size (.isl true es' xs) = some (flat xs, xs.length) := by
    simp only [srcV, if_pos he]
   obtain ⟨_, _, ovs, g1, g2, g3⟩ := src_ok hpre.sim r1 hsv
   rw [hev] at g1
   exact ⟨ovs, g1, g2, g3⟩
 | msl b len cap cs hcs hle =>
  obtain ⟨arr, e', fz, hev, g1, g2, g3⟩ := rep_msl_inv r1
  rw [Nat.zero_add] at g2
  by_cases hroom : sLen + m ≤ cap
  ·obtain ⟨arr0, e0, fz0, k1, k2, k3, k4⟩ := hpre.sim b cs (cup_of_some hcs)
   rw [g1] at k1; injection k1 with k1; injection k1 with k1 k1' k1''
   subst k1 k1' k1''
   have hfit2 : sLen * it.size + vs.toList.length ≤ arr.size := by
    have : (sLen + m) * it.size ≤ cap * it.size := Nat.mul_le_mul_right _ hroom
    rw [Nat.add_mul] at this
    simp; omega
   obtain ⟨w', arr', q1, q2, q3, q4, q5, q6, q7, q8⟩ := run_storeCells_raw (P := P) (b := b) (off := sLen * it.size) vs.toList 0 arr w g1 (by omega) (fun u hu => by
    obtain ⟨i, hi, rfl⟩ := List.getElem_of_mem hu
    have hi2 : i < vs.size := by simpa using hi
    have hy : new[i]? = some new[i] := by simp
    obtain ⟨y1, y2⟩ := hvr i _ hy
    have := y2.oneCell y1
    simpa [Array.getD_eq_getD_getElem?, hi2] using this) k2
   have hrun := run_room (P := P) (w := w) (w' := w') (ty := o.type) (b := b) (off := 0) (sLen := sLen) (sCap := cap) hu1 hu2 hit hlen hfc hroom (by rw [Nat.zero_add]; exact q1)
   unfold Oper.wp
   rw [hexec _ _ (by rw [hev]; exact hrun)]
   obtain ⟨s1, s2⟩ := Sim.write (cs' := cs.take (sLen * it.size) ++ new) hpre.sim (cup_of_some hcs) g1 q4 q2 q5 q3 (by simp at hfit2 ⊢; omega) (fun i y hy => by
    rcases Nat.lt_or_ge i (sLen * it.size) with h1 | h1
    ·rw [List.getElem?_append_left (by simp; omega), List.getElem?_take, if_pos h1] at hy
     rw [q6 i (by omega)]
     exact k4 i y hy
    ·rw [List.getElem?_append_right (by simp; omega)] at hy
     have hl2 : (cs.take (sLen * it.size)).length = sLen * it.size := by simp; omega
     rw [hl2] at hy
     have h2 := (List.getElem?_eq_some_iff.1 hy).1
     have h3 := q7 (i - sLen * it.size) (by simp; omega)
     rw [show sLen * it.size + 0 + (i - sLen * it.size) = i by omega] at h3
     rw [h3]
     have := hvr _ y hy
     simpa [List.getD, Array.getD_eq_getD_getElem?] using this) q8
   have hup : upd (del σ b) b (cs.take (sLen * it.size) ++ new) = upd σ b (cs.take (sLen * it.size) ++ new) := upd_del _ _ _
   have hGG := hG b cap (by simp [baseDel, del]) hroom
   simp only [baseDel] at hGG
   rw [hup] at hGG
   rw [← cup_upd] at s1 s2
   refine ⟨_, _, _, rfl, hGG, disj_upd hpre.dj (hpre.dj.other hcs), s1, .msl _ _ _ _ _ arr' _ _ q2 (by omega) hroom, s2⟩
  ·refine grow (some ⟨b, 0, none⟩) cap hev (by omega) fun olds' _ => ?_
   have hsv : srcV σ it.size (.msl b it.size 0 sLen cap) = some (cs.take (sLen * it.size), sLen) := by
    simp only [srcV, if_true, hcs, Nat.zero_add, if_pos hle, List.drop_zero]
   obtain ⟨_, _, ovs, h1, h2, h3⟩ := src_ok hpre.sim r1 hsv
   rw [hev] at h1
   exact ⟨ovs, h1, h2, h3⟩

theorem inv_mksl {o : Oper} {es by_ : Nat} {z : List V} {l c : Opd} (hc : compI P o = some (.mksl es by_ z l c)) : ∃ t e u v, o.op = .makeSlice t u v ∧ P.underlying t = some (.slice e) ∧ es = P.cellsOf e ∧ by_ = P.bytesOf e ∧ zeroOf P e = some z ∧ opd u = some l ∧ opd v = some c := by
 cases ho : o.op with
 | makeSlice t u v =>
  simp only [compI, ho] at hc
  split at hc
  ·rename_i e he
   simp only [Option.bind_eq_bind, Option.bind_eq_some_iff, Option.some.injEq, I.mksl.injEq] at hc
   obtain ⟨z', hz, l', hl, c', hc', rfl, rfl, rfl, rfl, rfl⟩ := hc
   exact ⟨t, e, u, v, rfl, he, rfl, rfl, hz, hl, hc'⟩
  ·cases hc
 | _ => exfalso; simp only [compI, ho] at hc; (repeat' split at hc) <;> first | (simp at hc; done) | (simp only [Option.bind_eq_bind, Option.bind_eq_some_iff] at hc; obtain ⟨fd, _, hc⟩ := hc; split at hc <;> first | (simp at hc; done) | (simp only [Option.bind_eq_some_iff, Option.some.injEq, reduceCtorEq, and_false, exists_false] at hc; done)) | (simp only [Option.map_eq_some_iff, Option.bind_eq_bind, Option.bind_eq_some_iff, Option.some.injEq, reduceCtorEq, and_false, exists_false] at hc; done) | (simp_all; done)

theorem flatten_rep_get {α : Type} {z : List α} : ∀ {n i : Nat} {x : α}, (List.replicate n z).flatten[i]? = some x → z[i % z.length]? = some x := by
 intro n
 induction n with
 | zero => intro i x h; simp at h
 | succ n ih =>
  intro i x h
  rw [List.replicate_succ, List.flatten_cons] at h
  rcases Nat.lt_or_ge i z.length with h1 | h1
  ·rw [List.getElem?_append_left h1] at h
   rw [Nat.mod_eq_of_lt h1]; exact h
  ·rw [List.getElem?_append_right h1] at h
   have := ih h
   rw [Nat.mod_eq_sub_mod h1]; exact this
theorem flatten_rep_len {α : Type} {z : List α} {n : Nat} : (List.replicate n z).flatten.length = n * z.length := by simp

theorem InsOK.mksl {es by_ : Nat} {z : List V} {l c : Opd} {T : Ts} {σ : St} {G : V → St → Prop} {k1 k2 : IntKind} {n m : Nat} (hl : ev Γ T l = .int k1 n) (hcp : ev Γ T c = .int k2 m) (hz0 : z.length = es) (hnm : n ≤ m) (hfit : by_ * m ≤ 281474976710656) (h63 : m ≤ 9223372036854775807)
  (hG : ∀ b, σ b = none → G (.msl b es 0 n m) (upd σ b (List.replicate m z).flatten)) : InsOK P Γ (.mksl es by_ z l c) T σ G := by
 intro o hc τ w a hpre
 obtain ⟨t, e, u, v, ho, hu, hese, hbye, hz, hlo, hco⟩ := inv_mksl hc
 obtain ⟨it, zv, hit, hiz, hzr⟩ := zero_ok (w := w) (O := own (cup σ τ)) hz
 obtain rfl : es = it.size := hese.trans (by simp [Program.cellsOf, hit])
 obtain rfl : by_ = it.bytes := hbye.trans (by simp [Program.bytesOf, hit])
 have r1 := ev_rep hpre hlo
 have r2 := ev_rep hpre hco
 rw [hl] at r1; rw [hcp] at r2
 have e1 := rep_int_inv r1
 have e2 := rep_int_inv r2
 have hb' : (it.bytes : Int) * (m : Int) ≤ 281474976710656 := by
  have h : ((it.bytes * m : Nat) : Int) ≤ 281474976710656 := by omega
  rwa [Int.natCast_mul] at h
 have hr := run_make (P := P) w t e it zv hu hit hiz k1 k2 n m (by omega) (by omega) hb' (by omega)
 rw [Int.toNat_natCast, Int.toNat_natCast] at hr
 have hfr := hpre.sim.fresh2
 unfold Oper.wp
 have hrun : (execOp a.eval o).run P w = .ok (.value (.slice (some ⟨w.heap.size, 0, none⟩) n m)) (w.alloc (.cells (madeCells zv.cells (m * it.size)) e)) := by
  simp [execOp, ho, e1, e2, hr]
 rw [hrun]
 have hzs : zv.cells.size = it.size := by rw [← hzr.1, hz0]
 obtain ⟨s1, s2⟩ := Sim.new (w' := w.alloc (.cells (madeCells zv.cells (m * it.size)) e)) (cs := (List.replicate m z).flatten) hpre.sim rfl (by rw [size_madeCells, flatten_rep_len, hz0]; exact Nat.le_refl _) (fun i x hx => by
  have hi : i < m * it.size := by have := (List.getElem?_eq_some_iff.1 hx).1; rw [flatten_rep_len, hz0] at this; exact this
  have hg := flatten_rep_get hx
  have hlt := (List.getElem?_eq_some_iff.1 hg).1
  obtain ⟨g1, g2⟩ := hzr.2 _ x hg
  refine ⟨g1, ?_⟩
  have : (madeCells zv.cells (m * it.size)).getD i undef = zv.cells.getD (i % z.length) undef := by
   have hlt2 : i % zv.cells.size < zv.cells.size := by rw [← hzr.1]; exact hlt
   simp only [madeCells, Array.getD_eq_getD_getElem?]
   rw [hzr.1]
   simp [hi, hlt2, getElem!_pos]
  rw [this]; exact g2)
 rw [← cup_upd] at s1 s2
 exact ⟨.msl w.heap.size it.size 0 n m, _, _, rfl, hG _ hfr.1, disj_upd hpre.dj hfr.2, s1, .msl _ _ _ _ _ (madeCells zv.cells (m * it.size)) e (0, 0) (heap_alloc_new w _) (by rw [size_madeCells]; omega) hnm, s2⟩

variable {f : FuncId} {n : Nat} {k : List It} {T : Ts} {σ : St} {Q : V → St → Prop} {d : Option Nat} {l : List GI}
theorem SRun.mkslR {es by_ : Nat} {z : List V} {lo c : Opd} {k1 k2 : IntKind} {n' m : Nat} (hl : ev Γ T lo = .int k1 n') (hcp : ev Γ T c = .int k2 m) (hz0 : z.length = es) (hnm : n' ≤ m) (hfit : by_ * m ≤ 281474976710656) (h63 : m ≤ 9223372036854775807)
  (hk : ∀ b, σ b = none → W P Γ f n Q (.ops l :: k) (putT T d (.msl b es 0 n' m)) (upd σ b (List.replicate m z).flatten)) : SRun P Γ f n (.ops (⟨d, none, .mksl es by_ z lo c⟩ :: l) :: k) T σ Q :=
 SRun.op (G := fun x s => ∃ b, σ b = none ∧ x = .msl b es 0 n' m ∧ s = upd σ b (List.replicate m z).flatten) rfl (InsOK.mksl hl hcp hz0 hnm hfit h63 fun b hb => ⟨b, hb, rfl, rfl⟩) (fun x s ⟨b, hb, e1, e2⟩ => by subst e1 e2; exact (hk b hb).sound)
/-- Something is appended to a slice that is all its row, or to one that is owned. -/
theorem SRun.appR {es by_ : Nat} {s x : Opd} {old new : List V} {sLen m : Nat} (hb : Base σ es (ev Γ T s) old sLen) (hsrc : srcV σ es (ev Γ T x) = some (new, m)) (hfit : (sLen + m) * by_ ≤ 140737488355328)
  (hk : ∀ b cap, baseDel σ (ev Γ T s) b = none → sLen + m ≤ cap → W P Γ f n Q (.ops l :: k) (putT T d (.msl b es 0 (sLen + m) cap)) (upd (baseDel σ (ev Γ T s)) b (old ++ new)))
  (h0 : m = 0 → ∀ ex es' xs, ev Γ T s = .isl ex es' xs → W P Γ f n Q (.ops l :: k) (putT T d (.isl ex es' xs)) σ) : SRun P Γ f n (.ops (⟨d, none, .app es by_ s x⟩ :: l) :: k) T σ Q :=
 SRun.op (G := fun y s' => (∃ b cap, baseDel σ (ev Γ T s) b = none ∧ sLen + m ≤ cap ∧ y = .msl b es 0 (sLen + m) cap ∧ s' = upd (baseDel σ (ev Γ T s)) b (old ++ new)) ∨ (m = 0 ∧ ∃ ex es' xs, ev Γ T s = .isl ex es' xs ∧ y = .isl ex es' xs ∧ s' = σ)) rfl
  (InsOK.app hb hsrc hfit (fun b cap h h' => .inl ⟨b, cap, h, h', rfl, rfl⟩) (fun h ex es' xs he => .inr ⟨h, ex, es', xs, he, rfl, rfl⟩))
  (fun y s' h => by
   rcases h with ⟨b, cap, h, h', e1, e2⟩ | ⟨h, ex, es', xs, he, e1, e2⟩
   ·subst e1 e2; exact (hk b cap h h').sound
   ·subst e1 e2; exact (h0 h ex es' xs he).sound)
end
end Go.Proofs.Ytdenfjbhkdhlkaa.Lg
