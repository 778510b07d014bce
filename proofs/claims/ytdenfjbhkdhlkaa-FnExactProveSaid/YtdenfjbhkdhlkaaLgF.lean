/- The own logic, part F: windows, structs and rows that are built, structs that are compared. It holds for every program. -/
import Derived.Test.YtdenfjbhkdhlkaaLgE
set_option linter.unusedSimpArgs false
set_option linter.unusedVariables false
namespace Go.Proofs.Ytdenfjbhkdhlkaa.Lg
open Go

section
variable {P : Program} {Γ : St} {T : Ts} {σ τ : St} {w : World} {a : Act} {o : Oper} {i : I} {p : Prop} {x : V}

/-- A bound that may be left out. -/
def bnd (e : Opd → V) (d : Int) : Option Opd → Option Int
 | none => some d
 | some y => match e y with | .int _ n => some n | _ => none
theorem cutV_eq (e : Opd → V) (len cap : Nat) (lo hi mx : Option Opd) : cutV e len cap lo hi mx = match bnd e 0 lo, bnd e len hi, bnd e cap mx with
  | some l, some h, some m => some (l, h, m)
  | _, _, _ => none := by
 unfold cutV
 cases lo <;> cases hi <;> cases mx <;> rfl
theorem cutV_some {e : Opd → V} {len cap : Nat} {lo hi mx : Option Opd} {l h m : Int} (hc : cutV e len cap lo hi mx = some (l, h, m)) : bnd e 0 lo = some l ∧ bnd e len hi = some h ∧ bnd e cap mx = some m := by
 rw [cutV_eq] at hc
 cases h1 : bnd e 0 lo <;> cases h2 : bnd e len hi <;> cases h3 : bnd e cap mx <;> simp_all
/-- What a bound is in the machine: left out, or an integer. -/
theorem bnd_val (hpre : Pre Γ T σ τ w a) {lo : Option Operand} {lo1 : Option Opd} (hlo : opdO lo = some lo1) {d l : Int} (hb : bnd (ev Γ T) d lo1 = some l) : (lo = none ∧ l = d) ∨ ∃ k, lo.map a.eval = some (.int k l) := by
 cases lo with
 | none => simp [opdO] at hlo; subst hlo; simp [bnd] at hb; exact .inl ⟨rfl, hb.symm⟩
 | some y =>
  simp only [opdO, Option.map_eq_some_iff] at hlo
  obtain ⟨y1, hy, rfl⟩ := hlo
  have h1 := ev_rep hpre hy
  simp only [bnd] at hb
  split at hb
  ·rename_i k n hn
   simp at hb; subst hb
   rw [hn] at h1
   exact .inr ⟨k, by simp [rep_int_inv h1]⟩
  ·simp at hb

theorem run_bounds2 (hpre : Pre Γ T σ τ w a) {lo hi : Option Operand} {lo1 hi1 : Option Opd} (hlo : opdO lo = some lo1) (hhi : opdO hi = some hi1) {isS : Bool} {len cap : Nat} {l h : Int} (h1 : bnd (ev Γ T) 0 lo1 = some l) (h2 : bnd (ev Γ T) len hi1 = some h)
  (b0 : 0 ≤ l) (b1 : l ≤ h) (b2 : h ≤ cap) : (Instr.sliceBounds isS len cap (lo.map a.eval) (hi.map a.eval) none).run P w = .ok (l.toNat, h.toNat, cap) w := by
 have b3 : 0 ≤ h := by omega
 have b4 : l ≤ (h.toNat : Int) := by omega
 rcases bnd_val hpre hlo h1 with ⟨rfl, rfl⟩ | ⟨k, e1⟩ <;> rcases bnd_val hpre hhi h2 with ⟨rfl, rfl⟩ | ⟨k2, e2⟩
 ·simp [Instr.sliceBounds]
 ·simp [Instr.sliceBounds, e2, run_sliceBound, b3, b2]
 ·simp [Instr.sliceBounds, e1, run_sliceBound, b0, b1]
 ·have q1 := fun code => run_sliceBound (P := P) w k l h.toNat code b0 b4
  have q2 := fun code => run_sliceBound (P := P) w k2 h cap code b3 b2
  simp [Instr.sliceBounds, e1, e2, q1, q2]
theorem run_bounds3 (hpre : Pre Γ T σ τ w a) {lo hi mx : Option Operand} {lo1 hi1 mx1 : Option Opd} (hlo : opdO lo = some lo1) (hhi : opdO hi = some hi1) (hmx : opdO mx = some mx1) {isS : Bool} {len cap : Nat} {l h m : Int} (h1 : bnd (ev Γ T) 0 lo1 = some l)
  (h2 : bnd (ev Γ T) len hi1 = some h) (h3 : bnd (ev Γ T) cap mx1 = some m) (hh : mx = none ∨ hi ≠ none)
  (b0 : 0 ≤ l) (b1 : l ≤ h) (b2 : h ≤ m) (b3 : m ≤ cap) : (Instr.sliceBounds isS len cap (lo.map a.eval) (hi.map a.eval) (mx.map a.eval)).run P w = .ok (l.toNat, h.toNat, m.toNat) w := by
 have c1 : 0 ≤ h := by omega
 have c2 : 0 ≤ m := by omega
 have c3 : l ≤ (h.toNat : Int) := by omega
 have c4 : h ≤ (m.toNat : Int) := by omega
 rcases bnd_val hpre hmx h3 with ⟨rfl, rfl⟩ | ⟨k3, e3⟩
 ·have := run_bounds2 (P := P) hpre hlo hhi (isS := isS) (cap := cap) h1 h2 b0 b1 (by omega)
  simpa using this
 ·have hi' : ∃ y, hi = some y := by
   rcases hh with hh | hh
   ·subst hh; simp at e3
   ·exact Option.ne_none_iff_exists'.1 hh
  obtain ⟨yh, rfl⟩ := hi'
  rcases bnd_val hpre hhi h2 with ⟨hn, _⟩ | ⟨k2, e2⟩
  ·simp at hn
  ·rcases bnd_val hpre hlo h1 with ⟨rfl, rfl⟩ | ⟨k, e1⟩
   ·simp only [Option.map_some] at e2
    have q2 := fun code => run_sliceBound (P := P) w k2 h m.toNat code c1 c4
    have q3 := fun code => run_sliceBound (P := P) w k3 m cap code c2 b3
    simp [Instr.sliceBounds, e2, e3, q2, q3]
   ·simp only [Option.map_some] at e2
    have q1 := fun code => run_sliceBound (P := P) w k l h.toNat code b0 c3
    have q2 := fun code => run_sliceBound (P := P) w k2 h m.toNat code c1 c4
    have q3 := fun code => run_sliceBound (P := P) w k3 m cap code c2 b3
    simp [Instr.sliceBounds, e1, e2, e3, q1, q2, q3]

theorem flat_cut {xs : List V} {es : Nat} (h : ∀ x ∈ xs, x.cells.length = es) (l n : Nat) : ((flat xs).drop (l * es)).take (n * es) = flat ((xs.drop l).take n) := by
 rw [flat_drop h, flat_take (fun x hx => h x (List.mem_of_mem_drop hx))]

theorem y_sl (hpre : Pre Γ T σ τ w a) {t e : TypeId} {y : Operand} {lo hi mx : Option Operand} {lo1 hi1 mx1 : Option Opd} (ho : o.op = .slice t y lo hi mx) (ht : P.underlying t = some (.slice e)) (he : ∃ it, P.info? e = some it) {y1 : Opd} (hy : opd y = some y1)
  (hlo : opdO lo = some lo1) (hhi : opdO hi = some hi1) (hmx : opdO mx = some mx1) (hh : mx = none ∨ hi ≠ none) (hi' : i = .sl (P.cellsOf e) y1 lo1 hi1 mx1) (hp : pureI σ (ev Γ T) i = some (p, x)) (hs : p) : Yields P o a w (own (cup σ τ)) x := by
 subst hi'
 obtain ⟨it, hit⟩ := he
 have hv := ev_rep hpre hy
 simp only [pureI] at hp
 split at hp
 ·rename_i ex es xs hb
  rw [hb] at hv
  obtain ⟨ad, c, e1, hlc, hex⟩ := hv.isl_len
  -- the cut itself, by its bounds
  have fin : ∀ (l h m : Int) (ex' : Bool), 0 ≤ l → l ≤ h → h ≤ m → h ≤ xs.length → m ≤ c → (ex' = true → m = h) → (xs = [] ∨ P.cellsOf e = es) →
    (Instr.sliceBounds true xs.length c (lo.map a.eval) (hi.map a.eval) (mx.map a.eval)).run P w = .ok (l.toNat, h.toNat, m.toNat) w → Yields P o a w (own (cup σ τ)) (.isl ex' es ((xs.drop l.toNat).take (h - l).toNat)) := by
   intro l h m ex' b0 b1 b2 b3 b4 hex' hes hrun
   refine .same (v := .slice (if m.toNat = l.toNat then ad else ad.map (·.add (l.toNat * P.cellsOf e))) (h.toNat - l.toNat) (m.toNat - l.toNat)) ?_ ?_
   ·simp [execOp, ho, e1, Instr.sliceAt, Instr.slice, run_underlying ht, hrun, run_sizeOf hit]
   ·have hlen : ((xs.drop l.toNat).take (h - l).toNat).length = h.toNat - l.toNat := by simp; omega
    by_cases hne : h = l
    ·have h0 : (xs.drop l.toNat).take (h - l).toNat = [] := by rw [hne]; simp
     have h1 : h.toNat - l.toNat = 0 := by omega
     rw [h0, h1]
     exact .isl0 _ _ _ _ (fun e => by have := hex' e; omega)
    ·have hxs : xs ≠ [] := by intro h0; subst h0; simp at b3; omega
     obtain ⟨b, off, c', e2, hlc', hex2, hes2, hbl, hno, hm⟩ := hv.isl_mem hxs
     rw [e1] at e2; injection e2 with e2 _ e3; subst e2; subst e3
     rw [hes.resolve_left hxs]
     have hml : ¬ m.toNat = l.toNat := by omega
     simp only [if_neg hml, Option.map_some, addr_add]
     have hm2 := hm.part (l.toNat * es) ((h - l).toNat * es)
     rw [flat_cut hes2] at hm2
     rw [← hlen]
     exact hm2.isl hbl hno (by rw [hlen]; omega) (fun e => by rw [hlen]; have := hex' e; omega) (fun x hx => hes2 x (List.mem_of_mem_drop (List.mem_of_mem_take hx)))
  split at hp
  ·-- no third bound
   split at hp
   ·rename_i l h m hcut
    simp only [Option.some.injEq, Prod.mk.injEq] at hp
    obtain ⟨rfl, rfl⟩ := hp
    obtain ⟨b0, b1, b2, hes⟩ := hs
    obtain ⟨k1, k2, _⟩ := cutV_some hcut
    have hmx0 : mx = none := by cases mx with | none => rfl | some q => simp [opdO] at hmx
    subst hmx0
    have hrun := run_bounds2 (P := P) hpre hlo hhi (isS := true) (cap := c) k1 k2 b0 b1 (by omega)
    refine fin l h c _ b0 b1 (by omega) b2 (Int.le_refl _) (fun e => ?_) hes (by simpa using hrun)
    simp at e
    have := hex e.1
    omega
   ·simp at hp
  ·rename_i q
   split at hp
   ·rename_i l h m hcut
    simp only [Option.some.injEq, Prod.mk.injEq] at hp
    obtain ⟨rfl, rfl⟩ := hp
    obtain ⟨b0, b1, b2, b3, hes⟩ := hs
    obtain ⟨k1, k2, k3⟩ := cutV_some hcut
    have hrun := run_bounds3 (P := P) hpre hlo hhi hmx (isS := true) (cap := c) k1 k2 (by simpa [bnd] using k3) hh b0 b1 b2 (by omega)
    refine fin l h m _ b0 b1 b2 (by omega) (by omega) (fun e => ?_) hes hrun
    simp at e
    omega
   ·simp at hp
 ·rename_i b es' off len cap hb
  rw [hb] at hv
  split at hp
  ·rename_i l h m hcut
   simp only [Option.some.injEq, Prod.mk.injEq] at hp
   obtain ⟨rfl, rfl⟩ := hp
   obtain ⟨rfl, b0, b1, b2, b3⟩ := hs
   obtain ⟨k1, k2, k3⟩ := cutV_some hcut
   obtain ⟨arr, e', fz, e1, hh1, hh2, hh3⟩ := rep_msl_inv hv
   have hrun := run_bounds3 (P := P) hpre hlo hhi hmx (isS := true) k1 k2 k3 hh b0 b1 b2 b3
   have hlm : (m.toNat = l.toNat) ↔ m = l := by omega
   refine .same (v := .slice (some ⟨b, if m = l then off else off + l.toNat * P.cellsOf e, none⟩) (h - l).toNat (m - l).toNat) ?_ (.msl _ _ _ _ _ arr e' fz hh1 ?_ (by omega))
   ·have t1 : h.toNat - l.toNat = (h - l).toNat := by omega
    have t2 : m.toNat - l.toNat = (m - l).toNat := by omega
    simp only [execOp, ho, e1, Instr.sliceAt, Instr.slice, Sem.run_bind, run_underlying ht, hrun, run_sizeOf hit, Result.andThen_ok, Sem.run_pure, hlm, t1, t2, Option.map_some, addr_add]
    split <;> rfl
   ·split
    ·rename_i hml; subst hml; simp; exact Nat.le_trans (Nat.le_add_right _ _) hh2
    ·have : (m - l).toNat * P.cellsOf e + l.toNat * P.cellsOf e ≤ cap * P.cellsOf e := by
      rw [← Nat.add_mul]; exact Nat.mul_le_mul_right _ (by omega)
     omega
  ·simp at hp
 ·simp at hp

theorem extract_bytes (s : List UInt8) (l h : Nat) : (⟨s.toArray⟩ : ByteArray).extract l h = ⟨((s.drop l).take (h - l)).toArray⟩ := by
 apply ByteArray.ext
 simp [ByteArray.data_extract, List.take_drop]
 try omega
theorem y_sls (hpre : Pre Γ T σ τ w a) {t : TypeId} {y : Operand} {lo hi : Option Operand} {lo1 hi1 : Option Opd} (ho : o.op = .slice t y lo hi none) (ht : P.underlying t = some .string) {y1 : Opd} (hy : opd y = some y1)
  (hlo : opdO lo = some lo1) (hhi : opdO hi = some hi1) (hi' : i = .sls y1 lo1 hi1) (hp : pureI σ (ev Γ T) i = some (p, x)) (hs : p) : Yields P o a w (own (cup σ τ)) x := by
 subst hi'
 have hv := ev_rep hpre hy
 simp only [pureI] at hp
 split at hp
 ·rename_i s hb
  rw [hb] at hv
  split at hp
  ·rename_i l h m hcut
   simp only [Option.some.injEq, Prod.mk.injEq] at hp
   obtain ⟨rfl, rfl⟩ := hp
   obtain ⟨b0, b1, b2⟩ := hs
   obtain ⟨k1, k2, k3⟩ := cutV_some hcut
   have hrun := run_bounds2 (P := P) hpre hlo hhi (isS := false) (cap := s.length) k1 k2 b0 b1 b2
   refine .same (v := .string ⟨((s.drop l.toNat).take (h - l).toNat).toArray⟩) ?_ (.str _)
   have t1 : h.toNat - l.toNat = (h - l).toNat := by omega
   simp [execOp, ho, rep_str_inv hv, Instr.sliceAt, Instr.slice, run_underlying ht, size_of_bytes, hrun, extract_bytes, t1]
  ·simp at hp
 ·simp at hp

end
end Go.Proofs.Ytdenfjbhkdhlkaa.Lg
