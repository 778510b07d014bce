/- The own logic: cells copied. It holds for every program. -/
import Derived.Test.YtdenfjbhkdhlkaaLgK
set_option linter.unusedSimpArgs false
set_option linter.unusedVariables false
namespace Go.Proofs.Ytdenfjbhkdhlkaa.Lg
open Go
variable {P : Program} {Γ : St}
theorem inv_copy {o : Oper} {es : Nat} {x y : Opd} (hc : compI P o = some (.copy es x y)) : ∃ c u v t1 e, o.op = .call c ∧ c.callee = .builtin .copy ∧ c.args = #[u, v] ∧ c.argTypes[0]? = some t1 ∧ P.underlying t1 = some (.slice e) ∧ es = P.cellsOf e ∧ opd u = some x ∧ opd v = some y := by
 cases ho : o.op with
 | call c =>
  obtain ⟨callee, as, tys⟩ := c
  simp only [compI, ho] at hc
  cases callee with
  | builtin b =>
   cases b <;> simp only [reduceCtorEq] at hc <;> try ((repeat' split at hc) <;> first | (simp at hc; done) | (simp only [Option.map_eq_some_iff, Option.bind_eq_bind, Option.bind_eq_some_iff, Option.some.injEq, reduceCtorEq, and_false, exists_false] at hc; done) | ((try split at hc) <;> first | (cases hc; done) | (simp only [Option.bind_eq_bind, Option.bind_eq_some_iff, Option.some.injEq, reduceCtorEq, and_false, exists_false] at hc; done)))
   case copy =>
    split at hc
    ·rename_i u v e h1 h2
     obtain ⟨t1, g1, g2⟩ := Option.bind_eq_some_iff.1 h2
     simp only [Option.bind_eq_bind, Option.bind_eq_some_iff, Option.some.injEq, I.copy.injEq] at hc
     obtain ⟨x', hx', y', hy', rfl, rfl, rfl⟩ := hc
     exact ⟨_, u, v, t1, e, rfl, rfl, by simpa using congrArg List.toArray h1, g1, g2, rfl, hx', hy'⟩
    ·cases hc
  | value u => simp only [Option.bind_eq_bind, Option.bind_eq_some_iff, Option.some.injEq, reduceCtorEq, and_false, exists_false] at hc
  | invoke r m => simp at hc
 | _ => exfalso; simp only [compI, ho] at hc; (repeat' split at hc) <;> first | (simp at hc; done) | (simp only [Option.bind_eq_bind, Option.bind_eq_some_iff] at hc; obtain ⟨fd, _, hc⟩ := hc; split at hc <;> first | (simp at hc; done) | (simp only [Option.bind_eq_some_iff, Option.some.injEq, reduceCtorEq, and_false, exists_false] at hc; done)) | (simp only [Option.map_eq_some_iff, Option.bind_eq_bind, Option.bind_eq_some_iff, Option.some.injEq, reduceCtorEq, and_false, exists_false] at hc; done) | (simp_all; done)
/-- What is copied, as much as there is room for. -/
theorem src_cut {σ τ : St} {w : World} {es k : Nat} {x : V} {v : Value} {new : List V} {m : Nat} (hs : Sim (cup σ τ) w) (hr : Rep w (own (cup σ τ)) x v) (h : srcV σ es x = some (new, m)) (hk : k = m ∨ (k ≤ m ∧ ∃ b off len cap, x = .msl b es off len cap)) :
  (Builtin.lenOf v).run P w = .ok m w ∧ ∃ vs : Array Value, (Builtin.firstCells es k v).run P w = .ok vs w ∧ (new.take (k * es)).length = k * es ∧ vs.size = k * es ∧ ∀ (i : Nat) (y : V), (new.take (k * es))[i]? = some y → y.one = true ∧ Rep w (own (cup σ τ)) y (vs.getD i undef) := by
 obtain ⟨h1, h2, vs, h3, h4, h5⟩ := src_ok (P := P) hs hr h
 refine ⟨h2, ?_⟩
 rcases hk with rfl | ⟨hk, b, off, len, cap, rfl⟩
 ·have ht : new.take (k * es) = new := List.take_of_length_le (by omega)
  exact ⟨vs, h3 w rfl, by rw [ht]; exact h1, by omega, by rw [ht]; exact h5⟩
 ·obtain ⟨arr, e, fz, rfl, g1, g2, g3⟩ := rep_msl_inv hr
  simp only [srcV, if_true] at h
  split at h
  ·rename_i cs hcs
   split at h
   case isFalse => cases h
   case isTrue hle =>
   simp only [Option.some.injEq, Prod.mk.injEq] at h
   obtain ⟨rfl, rfl⟩ := h
   have hkle : k * es ≤ len * es := Nat.mul_le_mul_right es hk
   have hr2 : Rep w (own (cup σ τ)) (.msl b es off k cap) (.slice (some ⟨b, off, none⟩) k cap) := .msl _ _ _ _ _ arr e fz g1 g2 (by omega)
   have hsv : srcV σ es (.msl b es off k cap) = some ((cs.drop off).take (k * es), k) := by
    simp only [srcV, if_true, hcs]
    rw [if_pos (by omega)]
   obtain ⟨q1, q2, vs2, q3, q4, q5⟩ := src_ok (P := P) hs hr2 hsv
   have ht : ((cs.drop off).take (len * es)).take (k * es) = (cs.drop off).take (k * es) := by rw [List.take_take, Nat.min_eq_left hkle]
   exact ⟨vs2, q3 w rfl, by rw [ht]; exact q1, by omega, by rw [ht]; exact q5⟩
  ·cases h
theorem InsOK.copy {es : Nat} {x y : Opd} {T : Ts} {σ : St} {G : V → St → Prop} {b off len cap : Nat} {cs new : List V} {m k : Nat} (hes : 0 < es) (hx : ev Γ T x = .msl b es off len cap) (hb : σ b = some cs) (hle : off + len * es ≤ cs.length) (hy : srcV σ es (ev Γ T y) = some (new, m)) (hkm : k = Nat.min m len) (hk : k = m ∨ (k ≤ m ∧ ∃ b off len cap, ev Γ T y = .msl b es off len cap))
  (hG : G (.int .i64 k) (upd σ b (cs.take off ++ new.take (k * es) ++ cs.drop (off + k * es)))) : InsOK P Γ (.copy es x y) T σ G := by
 intro o hc τ w a hpre
 obtain ⟨c, u, v, t1, e, ho, hcal, hargs, ht1, hu1, hese, hxo, hyo⟩ := inv_copy hc
 have r1 := ev_rep hpre hxo
 have r2 := ev_rep hpre hyo
 rw [hx] at r1
 obtain ⟨arr, e', fz, hev, g1, g2, g3⟩ := rep_msl_inv r1
 obtain ⟨arr0, e0, fz0, k1, k2, k3, k4⟩ := hpre.sim b cs (cup_of_some hb)
 rw [g1] at k1; injection k1 with k1; injection k1 with k1 k1' k1''
 subst k1 k1' k1''
 obtain ⟨hlen, vs, hfc, hnl, hvl, hvr⟩ := src_cut (P := P) hpre.sim r2 hy hk
 have hkl : k * es ≤ len * es := Nat.mul_le_mul_right es (by rw [hkm]; exact Nat.min_le_right _ _)
 have hexec : ∀ (w' : World), (Builtin.copy_ #[t1] o.type #[a.eval u, a.eval v]).run P w = .ok (goInt k) w' → (execOp a.eval o).run P w = .ok (.value (goInt k)) w' := by
  intro w' h
  have hcl : Builtin.copy_ c.argTypes o.type #[a.eval u, a.eval v] = Builtin.copy_ #[t1] o.type #[a.eval u, a.eval v] := by
   unfold Builtin.copy_
   rw [ht1]; rfl
  rw [← hcl] at h
  simp [execOp, ho, resolve, hcal, hargs, invoke, builtin, h]
 obtain ⟨w', arr', q1, q2, q3, q4, q5, q6, q7, q8⟩ := run_storeCells_raw (P := P) (b := b) (off := off) vs.toList 0 arr w g1 (by simp [hvl]; omega) (fun z hz => by
  obtain ⟨i, hi, rfl⟩ := List.getElem_of_mem hz
  have hi' : i < vs.size := by simpa using hi
  have hi2 : i < (new.take (k * es)).length := by omega
  obtain ⟨y1, y2⟩ := hvr i ((new.take (k * es))[i]'hi2) (List.getElem?_eq_getElem hi2)
  have := y2.oneCell y1
  simpa [Array.getD_eq_getD_getElem?, hi'] using this) k2
 have hrun : (Builtin.copy_ #[t1] o.type #[a.eval u, a.eval v]).run P w = .ok (goInt k) w' := by
  obtain ⟨it, hit⟩ : ∃ it, P.info? e = some it := by
   cases h : P.info? e with
   | none => simp [Program.cellsOf, h] at hese; omega
   | some it => exact ⟨it, rfl⟩
  rw [hev]
  simp [Builtin.copy_, run_underlying hu1, hlen, ← hkm, run_sizeOf hit, ← hese, hfc, q1]
 have hlt : (cs.take off ++ new.take (k * es)).length = off + k * es := by rw [List.length_append, hnl, List.length_take]; omega
 unfold Oper.wp
 rw [hexec _ hrun]
 have hvl2 : vs.toList.length = k * es := by simp [hvl]
 obtain ⟨s1, s2⟩ := Sim.write (cs' := cs.take off ++ new.take (k * es) ++ cs.drop (off + k * es)) hpre.sim (cup_of_some hb) g1 q4 q2 q5 q3 (by rw [List.length_append, hlt, List.length_drop]; omega) (fun i y hy => by
  rcases Nat.lt_or_ge i off with h1 | h1
  ·rw [List.append_assoc, List.getElem?_append_left (by simp; omega), List.getElem?_take, if_pos h1] at hy
   rw [q6 i (by omega)]
   exact k4 i y hy
  ·rcases Nat.lt_or_ge i (off + k * es) with h2 | h2
   ·have hl2 : (cs.take off).length = off := by simp; omega
    rw [List.getElem?_append_left (by omega), List.getElem?_append_right (by omega), hl2] at hy
    obtain ⟨y1, y2⟩ := hvr _ y hy
    refine ⟨y1, ?_⟩
    have h3 := q7 (i - off) (by omega)
    rw [show off + 0 + (i - off) = i by omega] at h3
    rw [h3]
    have h5 : vs.toList.getD (i - off) undef = vs.getD (i - off) undef := by
     have hi3 : i - off < vs.size := by omega
     simp [List.getD, Array.getD_eq_getD_getElem?, hi3]
    rw [h5]; exact y2
   ·rw [List.getElem?_append_right (by omega), hlt, List.getElem?_drop, show off + k * es + (i - (off + k * es)) = i by omega] at hy
    rw [q6 i (by omega)]
    exact k4 i y hy) q8
 rw [← cup_upd] at s1 s2
 exact ⟨_, _, _, rfl, hG, disj_upd hpre.dj (hpre.dj.other hb), s1, .int _ _, s2⟩
section
variable {f : FuncId} {n : Nat} {k : List It} {T : Ts} {σ : St} {Q : V → St → Prop} {d : Option Nat} {l : List GI}
theorem SRun.copyR {es : Nat} {x y : Opd} {b off len cap : Nat} {cs new : List V} {m j : Nat} (hes : 0 < es) (hx : ev Γ T x = .msl b es off len cap) (hb : σ b = some cs) (hle : off + len * es ≤ cs.length) (hy : srcV σ es (ev Γ T y) = some (new, m)) (hkm : j = Nat.min m len) (hk : j = m ∨ (j ≤ m ∧ ∃ b off len cap, ev Γ T y = .msl b es off len cap))
  (hK : W P Γ f n Q (.ops l :: k) (putT T d (.int .i64 j)) (upd σ b (cs.take off ++ new.take (j * es) ++ cs.drop (off + j * es)))) : SRun P Γ f n (.ops (⟨d, none, .copy es x y⟩ :: l) :: k) T σ Q :=
 SRun.op (G := fun z s => z = .int .i64 j ∧ s = upd σ b (cs.take off ++ new.take (j * es) ++ cs.drop (off + j * es))) rfl (InsOK.copy hes hx hb hle hy hkm hk ⟨rfl, rfl⟩) (fun z s ⟨e1, e2⟩ => by subst e1 e2; exact hK.sound)
theorem WrF.copy {es : Nat} {x y : Opd} {b off len cap : Nat} {cs new : List V} {m j : Nat} (hes : 0 < es) (hx : ev Γ T x = .msl b es off len cap) (hb : σ b = some cs) (hle : off + len * es ≤ cs.length) (hy : srcV σ es (ev Γ T y) = some (new, m)) (hkm : j = Nat.min m len) (hk : j = m ∨ (j ≤ m ∧ ∃ b off len cap, ev Γ T y = .msl b es off len cap)) :
  WrF P Γ σ T ⟨d, none, .copy es x y⟩ fun z s => z = .int .i64 j ∧ s = upd σ b (cs.take off ++ new.take (j * es) ++ cs.drop (off + j * es)) :=
 WrF.of fun T' hT => InsOK.copy hes (by rw [hT x (by simp [I.opds])]; exact hx) hb hle (by rw [hT y (by simp [I.opds])]; exact hy) hkm (by rw [hT y (by simp [I.opds])]; exact hk) ⟨rfl, rfl⟩
end
end Go.Proofs.Ytdenfjbhkdhlkaa.Lg
