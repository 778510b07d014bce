/- The builder of texts: its functions, stepped through. -/
import Derived.Test.YtjibkkhgejcjeaaGreatDoorBc
import Derived.Shelf.Strings.Builder1
import Derived.Shelf.Strings.BuilderK
import Derived.Test.YtjibkkhgejcjeaaGreatDoorHa
set_option linter.unusedSimpArgs false
set_option linter.unusedVariables false
namespace Go.Proofs.YtjibkkhgejcjeaaGreatDoor.Lg
open Go Go.Lib Go.RowKit Go.Proofs
theorem infoBuilder : ∃ j, Tryz.prog.info? 147 = some j ∧ j.size = 2 := Option.map_eq_some_iff.1 (show (Tryz.prog.info? 147).map (·.size) = some 2 by kernel_rfl)
theorem liesBuilder : liesAt Tryz.prog Tryz.prog.depth 147 (2 / Tryz.prog.cellsOf 147) 0 147 1 = true := by kernel_rfl
set_option maxHeartbeats 1000000 in
set_option maxRecDepth 100000 in
theorem cc_used (b : Nat) (w : World) (h0 : w.cell? ⟨b, 0, none⟩ = some (.pointer (some ⟨b, 0, none⟩))) :
    Calls Tryz.prog 126 #[.pointer (some ⟨b, 0, none⟩)] w fun e w' => e = .returned (.tuple #[]) ∧ w' = w := by
  obtain ⟨j, hj, _⟩ := infoBuilder
  go_enter Tryz.func126, Tryz.ntmps126
  go_wp2
  rw [Lib.run_neq_ptr_same w _ Tryz.underlying145 hj]
  go_wp2
  go_end0
  exact ⟨rfl, rfl⟩
set_option maxHeartbeats 1000000 in
set_option maxRecDepth 100000 in
theorem cc_fresh (b : Nat) (w : World) (h0 : w.cell? ⟨b, 0, none⟩ = some (.pointer none)) (hsh : w.shape? b = some (147, 2)) (hfz : w.frozen? ⟨b, 0, none⟩ = false) :
    Calls Tryz.prog 126 #[.pointer (some ⟨b, 0, none⟩)] w fun e w' => e = .returned (.tuple #[]) ∧ w' = w.setCell ⟨b, 0, none⟩ (.pointer (some ⟨b, 0, none⟩)) := by
  obtain ⟨j, hj, hjs⟩ := infoBuilder
  go_enter Tryz.func126, Tryz.ntmps126
  go_wp2
  rw [Lib.run_to_unsafe w ⟨b, 0, none⟩ Tryz.underlying145 Tryz.underlying196 hj (by rw [hjs]; decide) hsh (Nat.zero_lt_succ 1)]
  simp only [Result.andThen]
  rw [Oper.upon_value]
  go_wp2
  rw [run_callFunc_extern Tryz.func146 (by kernel_rfl) (by kernel_rfl) (by kernel_rfl) (e := Extern.AbiNoEscape.same) (by kernel_rfl)]
  rw [Lib.run_noEscape]
  simp only [Result.andThen]
  rw [Oper.upon_value]
  go_wp2
  rw [Lib.run_from_unsafe w ⟨b, 0, none⟩ Tryz.underlying196 Tryz.underlying145 hj hsh liesBuilder]
  simp only [Result.andThen]
  rw [Oper.upon_value]
  go_wp2
  go_end0
  exact ⟨rfl, rfl⟩
end Go.Proofs.YtjibkkhgejcjeaaGreatDoor.Lg
/- Bytes appended to a buffer whose type is told. -/
set_option linter.unusedSimpArgs false
set_option linter.unusedVariables false
namespace Go.Proofs.YtjibkkhgejcjeaaGreatDoor.Lg
open Go Go.Lib Go.RowKit Go.Proofs
variable {σ τ : St} {w : World}
theorem Sim.set1 {b o : Nat} {cs : List V} {x : V} {v : Value} (h : Sim σ w) (hb : σ b = some cs) (ho : o < cs.length) (h1 : x.one = true) (hr : Rep w (own σ) x v) :
    Sim (upd σ b (cs.set o x)) (w.setCell ⟨b, o, none⟩ v) ∧ Keep w (w.setCell ⟨b, o, none⟩ v) (own σ) (own (upd σ b (cs.set o x))) := by
  obtain ⟨arr, e, fz, g1, g2, g3, g4⟩ := h b cs hb
  obtain ⟨k1, k2, k3⟩ := setCell_heap (o := o) (v := v) g1
  refine Sim.write h hb g1 k2 k1 k3 (by simp) (by simp; omega) (fun i y hy => ?_)
  by_cases e2 : i = o
  · subst e2
    rw [List.getElem?_set_self ho] at hy
    obtain rfl := Option.some.inj hy
    have : (arr.setIfInBounds i v).getD i undef = v := by simp [Array.getD, show i < arr.size by omega]
    rw [this]; exact ⟨h1, hr⟩
  · rw [List.getElem?_set_ne (Ne.symm e2)] at hy
    have : (arr.setIfInBounds o v).getD i undef = arr.getD i undef := by
      rw [Array.getD_eq_getD_getElem?, Array.getD_eq_getD_getElem?, Array.getElem?_setIfInBounds_ne (Ne.symm e2)]
    rw [this]; exact g4 i y hy
/-- A builder's buffer, and what it holds. -/
def BufAt (σ : St) (l : List UInt8) (q : V) : Prop := (l = [] ∧ q = .nsl) ∨ ∃ g cap, l ≠ [] ∧ q = .mslT g 5 l.length cap ∧ σ g = some (u8s l)
def blkB : V → Option Nat
  | .mslT b _ _ _ => some b
  | _ => none
theorem infoByte : ∃ it, Tryz.prog.info? 5 = some it ∧ it.zero = some (.int .u8 0) ∧ it.size = 1 ∧ it.bytes = 1 := by
  obtain ⟨it, h1, h2⟩ := Option.map_eq_some_iff.1 (show (Tryz.prog.info? 5).map (fun i => (i.zero, i.size, i.bytes)) = some (some (.int .u8 0), 1, 1) by kernel_rfl)
  simp only [Prod.mk.injEq] at h2
  exact ⟨it, h1, h2.1, h2.2.1, h2.2.2⟩
theorem app_grow (hd : disj σ τ) (hs : Sim (cup σ τ) w) {l : List UInt8} {base : Option Addr} {sCap : Nat} {s : List UInt8} (hg : sCap < l.length + s.length) (hfit : l.length + s.length ≤ 140737488355328) (ty : TypeId)
    (hold : ∃ ovs : Array Value, (∀ w1, w1.heap = w.heap → (Builtin.firstCells 1 l.length (.slice base l.length sCap)).run Tryz.prog w1 = .ok ovs w1) ∧ (u8s l).length = ovs.size ∧ ∀ (i : Nat) (y : V), (u8s l)[i]? = some y → y.one = true ∧ Rep w (own (cup σ τ)) y (ovs.getD i undef))
    {σd : St} (hle : ∀ b cs, σd b = some cs → σ b = some cs) :
    ∃ v' w' cap', (Builtin.append_ #[43, 9] ty #[.slice base l.length sCap, .string ⟨s.toArray⟩]).run Tryz.prog w = .ok v' w' ∧ Post σ τ w (.mslT w.heap.size 5 (l ++ s).length cap') v' (upd σd w.heap.size (u8s (l ++ s))) w' := by
  obtain ⟨it, hit, hiz, hsz, hby⟩ := infoByte
  obtain ⟨hnl, hlen, vs, hfc, hvl, hvr⟩ := src_ok (P := Tryz.prog) (es := 1) (x := .str s) (new := u8s s) (m := s.length) hs (.str s) rfl
  obtain ⟨ovs, ho1, ho2, ho3⟩ := hold
  obtain ⟨rest, cap', hrun, hcap, hrest⟩ := run_grow (P := Tryz.prog) (ty := ty) Tryz.underlying43 (.inr Tryz.underlying9) hit hiz (by rw [hby]; decide) hlen (by rw [hsz]; exact ho1) (by rw [hsz]; exact hfc) hg (by rw [hby]; omega)
  have hfr := hs.fresh2
  have hsim' : Sim (cup σd τ) w := by
    refine hs.less fun b cs h => ?_
    unfold cup at *
    cases hb1 : σd b with
    | none =>
      rw [hb1] at h
      have := hd.symm_none h
      rw [this]; exact h
    | some cs' => rw [hb1] at h; rw [hle b cs' hb1]; exact h
  have hown : ∀ b, own (cup σd τ) b → own (cup σ τ) b := by
    intro b hb
    unfold own cup at *
    cases hb1 : σd b with
    | none => rw [hb1] at hb; cases hb2 : σ b <;> simp_all
    | some cs' => rw [hle b cs' hb1]; simp
  have e1 : (u8s (l ++ s)) = u8s l ++ u8s s := by simp [u8s]
  have hul : (u8s l).length = l.length := by simp [u8s]
  have hus : (u8s s).length = s.length := by simp [u8s]
  obtain ⟨s1, s2⟩ := Sim.new (w' := w.drew.alloc (.cells (ovs ++ vs ++ rest) 5)) (cs := u8s l ++ u8s s) hsim' rfl (by simp; omega) (fun i y hy => by
    rw [getD3]
    rcases Nat.lt_or_ge i (u8s l).length with h1 | h1
    · rw [List.getElem?_append_left h1] at hy
      rw [if_pos (by omega)]
      obtain ⟨g1, g2⟩ := ho3 i y hy
      exact ⟨g1, g2.less hown⟩
    · rw [List.getElem?_append_right h1] at hy
      have h2 := (List.getElem?_eq_some_iff.1 hy).1
      rw [if_neg (by omega), if_pos (by omega), ← ho2]
      obtain ⟨g1, g2⟩ := hvr _ y hy
      exact ⟨g1, g2.less hown⟩)
  have hk : Keep w (w.drew.alloc (.cells (ovs ++ vs ++ rest) 5)) (own (cup σ τ)) (own (cup (upd σd w.heap.size (u8s l ++ u8s s)) τ)) := by
    refine (Keep.push rfl).ownNew (b := w.heap.size) (fun n hn => ?_) (Nat.le_refl _)
    rw [cup_upd, own_upd] at hn
    exact hn.symm.imp (hown n) id
  have hz1 : (Value.int IntKind.u8 0).cells.size = 1 := rfl
  rw [hz1] at hrest
  refine ⟨_, _, cap', hrun, ?_, by rw [e1, cup_upd]; exact s1, ?_, by rw [e1]; exact hk⟩
  · refine disj_upd (fun b => ?_) hfr.2
    cases hb1 : σd b with
    | none => exact .inl rfl
    | some cs' => exact .inr (hd.other (hle b cs' hb1))
  · have e2 : (l ++ s).length = l.length + s.length := List.length_append
    rw [e2]
    refine .mslT _ _ _ _ (ovs ++ vs ++ rest) (0, 0) (heap_alloc_new w.drew _) ?_ hcap
    simp only [Array.size_append, hrest]
    omega
theorem app_room (hd : disj σ τ) (hs : Sim (cup σ τ) w) {l : List UInt8} {g cap : Nat} (hgc : σ g = some (u8s l)) {arr : Array Value} {fz : Nat × Nat} (hw : w.heap[g]? = some (.cells arr 5 fz)) (hcap : cap ≤ arr.size) {s : List UInt8} (hg : l.length + s.length ≤ cap) (ty : TypeId) :
    ∃ v' w', (Builtin.append_ #[43, 9] ty #[.slice (some ⟨g, 0, none⟩) l.length cap, .string ⟨s.toArray⟩]).run Tryz.prog w = .ok v' w' ∧ Post σ τ w (.mslT g 5 (l ++ s).length cap) v' (upd σ g (u8s (l ++ s))) w' := by
  obtain ⟨it, hit, hiz, hsz, hby⟩ := infoByte
  obtain ⟨hnl, hlen, vs, hfc, hvl, hvr⟩ := src_ok (P := Tryz.prog) (es := 1) (x := .str s) (new := u8s s) (m := s.length) hs (.str s) rfl
  have e1 : (u8s (l ++ s)) = u8s l ++ u8s s := by simp [u8s]
  have hul : (u8s l).length = l.length := by simp [u8s]
  have hus : (u8s s).length = s.length := by simp [u8s]
  obtain ⟨arr0, e0, fz0, k1, k2, k3, k4⟩ := hs g _ (cup_of_some hgc)
  rw [hw] at k1; injection k1 with k1; injection k1 with k1 k1' k1''
  subst k1 k1' k1''
  obtain ⟨w', arr', q1, q2, q3, q4, q5, q6, q7, q8⟩ := run_storeCells_raw (P := Tryz.prog) (b := g) (off := l.length) vs.toList 0 arr w hw (by simp; omega) (fun u hu => by
    obtain ⟨i, hi, rfl⟩ := List.getElem_of_mem hu
    have hi2 : i < vs.size := by simpa using hi
    have hy : (u8s s)[i]? = some (u8s s)[i] := by simp
    obtain ⟨y1, y2⟩ := hvr i _ hy
    have := y2.oneCell y1
    simpa [Array.getD_eq_getD_getElem?, hi2] using this) k2
  have hrun := run_room (P := Tryz.prog) (w := w) (w' := w') (ty := ty) (b := g) (off := 0) (sLen := l.length) (sCap := cap) Tryz.underlying43 (.inr Tryz.underlying9) hit hlen (by rw [hsz]; exact hfc) hg (by rw [hsz, Nat.mul_one, Nat.zero_add]; exact q1)
  obtain ⟨s1, s2⟩ := Sim.write (cs' := u8s l ++ u8s s) hs (cup_of_some hgc) hw q4 q2 q5 q3 (by simp; omega) (fun i y hy => by
    rcases Nat.lt_or_ge i l.length with h1 | h1
    · rw [List.getElem?_append_left (by omega)] at hy
      rw [q6 i (by omega)]
      exact k4 i y hy
    · rw [List.getElem?_append_right (by omega), hul] at hy
      have h2 := (List.getElem?_eq_some_iff.1 hy).1
      have h3 := q7 (i - l.length) (by simp; omega)
      rw [show l.length + 0 + (i - l.length) = i by omega] at h3
      rw [h3]
      have := hvr _ y hy
      simpa [List.getD, Array.getD_eq_getD_getElem?] using this) q8
  rw [← e1, ← cup_upd] at s1 s2
  have e2 : (l ++ s).length = l.length + s.length := List.length_append
  exact ⟨_, w', hrun, disj_upd hd (hd.other hgc), s1, by rw [e2]; exact .mslT _ _ _ _ arr' _ q2 (by omega) hg, s2⟩
/-- Bytes appended to a buffer. -/
theorem app_bytes (hd : disj σ τ) (hs : Sim (cup σ τ) w) {l : List UInt8} {q : V} {bv : Value} (hq : BufAt σ l q) (hr : Rep w (own (cup σ τ)) q bv) {s : List UInt8} (h0 : s ≠ []) (hfit : l.length + s.length ≤ 140737488355328) (ty : TypeId) :
    ∃ v' w' q' σ', (Builtin.append_ #[43, 9] ty #[bv, .string ⟨s.toArray⟩]).run Tryz.prog w = .ok v' w' ∧ Post σ τ w q' v' σ' w' ∧ BufAt σ' (l ++ s) q' ∧ (∀ d, blkB q ≠ some d → blkB q' ≠ some d → σ' d = σ d) ∧ ∀ d, blkB q' = some d → blkB q = some d ∨ σ d = none := by
  have hpos := List.length_pos_iff.2 h0
  have hne : l ++ s ≠ [] := fun h => h0 (List.append_eq_nil_iff.1 h).2
  have hfr := hs.fresh2
  rcases hq with ⟨rfl, rfl⟩ | ⟨g, cap, hl0, rfl, hgc⟩
  · cases hr
    obtain ⟨v', w', cap', h1, h2⟩ := app_grow hd hs (l := []) (base := none) (sCap := 0) (s := s) (by simpa using hpos) hfit ty ⟨#[], fun w1 _ => by simp [Builtin.firstCells, loadCells, loadCellsFrom], rfl, fun i y hy => by simp [u8s] at hy⟩ (σd := σ) (fun _ _ h => h)
    exact ⟨v', w', _, _, h1, h2, .inr ⟨_, cap', hne, rfl, upd_same _ _ _⟩, fun d _ hd2 => upd_ne _ _ (fun e => hd2 (by rw [e]; rfl)), fun d hd2 => .inr (by simp only [blkB, Option.some.injEq] at hd2; rw [← hd2]; exact hfr.1)⟩
  · cases hr with
    | mslT _ _ _ _ arr fz hw hcap hlc =>
      by_cases hroom : l.length + s.length ≤ cap
      · obtain ⟨v', w', h1, h2⟩ := app_room hd hs hgc hw hcap hroom ty
        exact ⟨v', w', _, _, h1, h2, .inr ⟨_, cap, hne, rfl, upd_same _ _ _⟩, fun d hd1 _ => upd_ne _ _ (fun e => hd1 (by rw [e]; rfl)), fun d hd2 => .inl hd2⟩
      · have hsv : srcV σ 1 (.msl g 1 0 l.length cap) = some ((u8s l).take (l.length * 1), l.length) := by
          simp only [srcV, if_true, hgc, Nat.zero_add, List.drop_zero]
          rw [if_pos (by simp [u8s])]
        have htk : (u8s l).take (l.length * 1) = u8s l := List.take_of_length_le (by simp [u8s])
        rw [htk] at hsv
        obtain ⟨_, _, ovs, h1, h2, h3⟩ := src_ok (P := Tryz.prog) hs (v := .slice (some ⟨g, 0, none⟩) l.length cap) (.msl g 1 0 l.length cap arr 5 fz hw (by omega) hlc) hsv
        obtain ⟨v', w', cap', k1, k2⟩ := app_grow hd hs (l := l) (base := some ⟨g, 0, none⟩) (sCap := cap) (s := s) (by omega) hfit ty ⟨ovs, h1, h2, h3⟩ (σd := del σ g) (fun b cs h => by
          unfold del at h
          split at h
          · cases h
          · exact h)
        exact ⟨v', w', _, _, k1, k2, .inr ⟨_, cap', hne, rfl, upd_same _ _ _⟩, fun d hd1 hd2 => (upd_ne _ _ (fun e => hd2 (by rw [e]; rfl))).trans (del_ne _ (fun e => hd1 (by rw [e]; rfl))), fun d hd2 => .inr (by simp only [blkB, Option.some.injEq] at hd2; rw [← hd2]; exact hfr.1)⟩
end Go.Proofs.YtjibkkhgejcjeaaGreatDoor.Lg
/- The builder of texts, told in the own logic's words. -/
set_option linter.unusedSimpArgs false
set_option linter.unusedVariables false
namespace Go.Proofs.YtjibkkhgejcjeaaGreatDoor.Lg
open Go Go.Lib Go.RowKit Go.Proofs
section
variable {P : Program} {Γ : St} {f : FuncId} {n : Nat} {Q : V → St → Prop} {k : List It}
theorem InsOK.allocT {e : Nat} {T : Ts} {σ : St} {G : V → St → Prop} (hG : ∀ b, σ b = none → G (.ptr b 0) (upd σ b [.bnil b e 2, .nsl])) : InsOK P Γ (.alloc [.tnil e, .nsl]) T σ G := by
  intro o hc τ w a hpre
  obtain ⟨e', ho, hz⟩ := inv_alloc hc
  obtain ⟨rfl, _⟩ := zeroA_typed hz
  obtain ⟨it, v, hit, hiz, hzr⟩ := zeroA_ok (w := w) (O := own (cup σ τ)) hz
  obtain ⟨hσ, hτ⟩ := hpre.sim.fresh2
  unfold Oper.wp
  have hrun : (execOp a.eval o).run P w = .ok (.value (.pointer (some ⟨w.heap.size, 0, none⟩))) { w with heap := w.heap.push (.cells v.cells e') } := by
    simp only [execOp, ho]
    refine run_v ?_
    have hz : (zeroValue e').run P w = .ok v w := by simp [zeroValue, typeInfo, hit, hiz]
    simp only [Instr.alloc, Sem.run_bind, hz, Result.andThen_ok]
    simp [newVar, newRow]
  rw [hrun]
  obtain ⟨s1, s2⟩ := Sim.new (w' := { w with heap := w.heap.push (.cells v.cells e') }) hpre.sim rfl (by rw [hzr.1]; exact Nat.le_refl _) hzr.2
  have hsz : v.cells.size = 2 := by rw [← hzr.1]; rfl
  have hnew : ({ w with heap := w.heap.push (.cells v.cells e') } : World).heap[w.heap.size]? = some (.cells v.cells e' (0, 0)) := by simp
  have s3 := s1.retell (b := w.heap.size) (cs' := [.bnil w.heap.size e' 2, .nsl]) (upd_same _ _ _) (fun arr e2 fz hh hl hr => by
    rw [hnew] at hh; injection hh with hh; injection hh with h1 h2 h3
    subst h1 h2 h3
    refine ⟨by rw [hsz]; exact Nat.le_refl _, fun i x hx => ?_⟩
    match i with
    | 0 =>
      simp at hx; subst hx
      have := hr 0 _ rfl
      refine ⟨rfl, ?_⟩
      generalize v.cells.getD 0 undef = v0 at this ⊢
      cases this with
      | tnil _ => exact .bnil _ _ _ v.cells (0, 0) hnew hsz
    | 1 => simp at hx; subst hx; exact ⟨rfl, hr 1 _ rfl⟩
    | i + 2 => simp at hx)
  rw [upd_upd] at s3
  have ho2 : own (upd (cup σ τ) w.heap.size [.bnil w.heap.size e' 2, .nsl]) = own (upd (cup σ τ) w.heap.size [.tnil e', .nsl]) := by
    funext m
    apply propext
    rw [own_upd, own_upd]
  rw [← ho2] at s2
  rw [← cup_upd] at s3 s2
  exact ⟨.ptr w.heap.size 0, _, _, rfl, hG _ hσ, disj_upd hpre.dj hτ, s3, .ptr _ _, s2⟩
theorem SRun.allocT {d : Option Nat} {l : List GI} {T : Ts} {σ : St} {e : Nat} (hk : ∀ b, σ b = none → W P Γ f n Q (.ops l :: k) (putT T d (.ptr b 0)) (upd σ b [.bnil b e 2, .nsl])) : SRun P Γ f n (.ops (⟨d, none, .alloc [.tnil e, .nsl]⟩ :: l) :: k) T σ Q :=
  SRun.op (G := fun x s => ∃ b, σ b = none ∧ x = .ptr b 0 ∧ s = upd σ b [.bnil b e 2, .nsl]) rfl (InsOK.allocT fun b hb => ⟨b, hb, rfl, rfl⟩) (fun x s ⟨b, hb, e1, e2⟩ => by subst e1 e2; exact (hk b hb).sound)
end
variable {σ τ : St} {w : World}
theorem Sim.cell {b : Nat} {cs : List V} (h : Sim σ w) (hb : σ b = some cs) {i : Nat} {x : V} (hx : cs[i]? = some x) : ∃ v, w.cell? ⟨b, i, none⟩ = some v ∧ Rep w (own σ) x v := by
  obtain ⟨arr, e, fz, g1, g2, g3, g4⟩ := h b cs hb
  have hi := (List.getElem?_eq_some_iff.1 hx).1
  refine ⟨arr.getD i undef, ?_, (g4 i x hx).2⟩
  simp [World.cell?, g1, Array.getD, show i < arr.size by omega]
theorem Sim.thaw {b : Nat} {cs : List V} (h : Sim σ w) (hb : σ b = some cs) {i : Nat} (hi : i < cs.length) : w.frozen? ⟨b, i, none⟩ = false := by
  obtain ⟨arr, e, fz, g1, g2, g3, g4⟩ := h b cs hb
  have := g2 i (by omega)
  simp only [World.frozen?, g1]
  simp
  omega
theorem cc_ok (hd : disj σ τ) (hs : Sim (cup σ τ) w) {b : Nat} {p q : V} (hp : p = .bnil b 147 2 ∨ p = .ptr b 0) (hb : σ b = some [p, q]) :
    Calls Tryz.prog 126 #[.pointer (some ⟨b, 0, none⟩)] w fun e w1 => e = .returned (.tuple #[]) ∧ Sim (cup (upd σ b [.ptr b 0, q]) τ) w1 ∧ Keep w w1 (own (cup σ τ)) (own (cup (upd σ b [.ptr b 0, q]) τ)) := by
  obtain ⟨v0, c0, r0⟩ := hs.cell (cup_of_some hb) (i := 0) rfl
  rcases hp with rfl | rfl
  · cases r0 with
    | bnil _ _ _ arr fz hh hsz =>
      refine (cc_fresh b w c0 (by simp [World.shape?, hh, hsz]) (hs.thaw (cup_of_some hb) (by simp))).mono ?_
      rintro e w1 ⟨rfl, rfl⟩
      obtain ⟨s1, s2⟩ := hs.set1 (cup_of_some hb) (o := 0) (x := .ptr b 0) (by simp) rfl (.ptr b 0)
      rw [← cup_upd] at s1 s2
      exact ⟨rfl, s1, s2⟩
  · have := rep_ptr_inv r0
    subst this
    refine (cc_used b w c0).mono ?_
    rintro e w1 ⟨rfl, rfl⟩
    rw [upd_self _ hb]
    exact ⟨rfl, hs, .refl _ _⟩
theorem wpList_app {ops : Array Oper} {rest : List Oper} {o : Oper} {a : Act} {Q : Exit → Act → World → Prop} {P : Program} (hgd : o.guard = none) (sl x : Operand) (t u : TypeId)
    (ho : o.op = .call { callee := .builtin .append, args := #[sl, x], argTypes := #[t, u] }) {v sv v' : Value} {w' : World} (hs : a.eval sl = v) (hx : a.eval x = sv)
    (hrun : (Builtin.append_ #[t, u] o.type #[v, sv]).run P w = .ok v' w') (h : wpList P ops Q rest (a.put o.dst v') w') : wpList P ops Q (o :: rest) a w := by
  refine wpList_plain hgd fun K hK => ?_
  unfold Oper.wp execOp
  simp only [ho, resolve, invoke, builtin, Sem.run_bind, Sem.run_pure, Result.andThen_ok, List.map_toArray, List.map_cons, List.map_nil, hs, hx, hrun]
  exact hK _ _ h
end Go.Proofs.YtjibkkhgejcjeaaGreatDoor.Lg
/- Texts written to a builder, and what it holds in the end. -/
set_option linter.unusedSimpArgs false
set_option linter.unusedVariables false
namespace Go.Proofs.YtjibkkhgejcjeaaGreatDoor.Lg
open Go Go.Lib Go.RowKit Go.Proofs
variable {σ τ : St} {w : World}
theorem BufAt.slice {l : List UInt8} {q : V} {v : Value} {O : Nat → Prop} (h : BufAt σ l q) (hr : Rep w O q v) : ∃ a c, v = .slice a l.length c := by
  rcases h with ⟨rfl, rfl⟩ | ⟨g, cap, _, rfl, _⟩
  · cases hr; exact ⟨_, _, rfl⟩
  · cases hr; exact ⟨_, _, rfl⟩
set_option maxHeartbeats 1000000 in
set_option maxRecDepth 100000 in
theorem ws_calls (hd : disj σ τ) (hs : Sim (cup σ τ) w) {b : Nat} {p q : V} (hp : p = .bnil b 147 2 ∨ p = .ptr b 0) (hb : σ b = some [p, q]) {l : List UInt8} (hq : BufAt σ l q) (hqb : blkB q ≠ some b) {s : List UInt8} (h0 : s ≠ []) (hfit : l.length + s.length ≤ 140737488355328) :
    Calls Tryz.prog 101 #[.pointer (some ⟨b, 0, none⟩), .string ⟨s.toArray⟩] w fun e w' => e = .returned (.tuple #[.int .i64 (s.length : Int), .nilIface]) ∧ ∃ q' σ', disj σ' τ ∧ Sim (cup σ' τ) w' ∧ Keep w w' (own (cup σ τ)) (own (cup σ' τ)) ∧ σ' b = some [.ptr b 0, q'] ∧ BufAt σ' (l ++ s) q' ∧ blkB q' ≠ some b ∧ (∀ d, d ≠ b → blkB q ≠ some d → blkB q' ≠ some d → σ' d = σ d) ∧ ∀ d, blkB q' = some d → blkB q = some d ∨ σ d = none := by
  go_enter Tryz.func101, Tryz.ntmps101
  go_wp2_with (go_at_fn 126)
  refine Calls.mono (cc_ok hd hs hp hb) ?_
  rintro e w1 ⟨rfl, hs1, hk1⟩
  have hd1 : disj (upd σ b [.ptr b 0, q]) τ := disj_upd hd (hd.other hb)
  have hb1 := upd_same σ b [.ptr b 0, q]
  have hf1 : ∀ d, d ≠ b → upd σ b [.ptr b 0, q] d = σ d := fun d e => upd_ne _ _ e
  have hq1 : BufAt (upd σ b [.ptr b 0, q]) l q := by
    rcases hq with h | ⟨g, cap, hl0, rfl, h⟩
    · exact .inl h
    · exact .inr ⟨g, cap, hl0, rfl, (hf1 g (fun e => hqb (by rw [e]; rfl))).trans h⟩
  generalize upd σ b [.ptr b 0, q] = σ1 at *
  obtain ⟨v0, c0, r0⟩ := hs1.cell (cup_of_some hb1) (i := 0) rfl
  have := rep_ptr_inv r0
  subst this
  obtain ⟨v, c1, r1⟩ := hs1.cell (cup_of_some hb1) (i := 1) rfl
  obtain ⟨v', w2, q', σ', hrun, ⟨hd2, hs2, hr2, hk2⟩, hbuf, hfr, hnew⟩ := app_bytes hd1 hs1 hq1 r1 h0 hfit 43
  obtain ⟨ao, cap', rfl⟩ := hbuf.slice hr2
  have hqb' : blkB q' ≠ some b := fun e => by
    rcases hnew b e with h | h
    · exact hqb h
    · rw [hb1] at h; cases h
  have hb2 : σ' b = some [.ptr b 0, q] := (hfr b hqb hqb').trans hb1
  obtain ⟨u0, d0, r0'⟩ := hs2.cell (cup_of_some hb2) (i := 0) rfl
  have := rep_ptr_inv r0'
  subst this
  obtain ⟨u1, d1, _⟩ := hs2.cell (cup_of_some hb2) (i := 1) rfl
  have f1 := hs2.thaw (cup_of_some hb2) (i := 1) (by simp)
  have hsz : ((⟨s.toArray⟩ : ByteArray).size : Int) = s.length := by rw [size_of_bytes]
  go_wp2_with (at_builtin; refine wpList_app rfl _ _ 43 9 rfl rfl rfl hrun ?_)
  go_wp2
  go_ret2
  rw [List.length_append] at hr2
  have hone : q'.one = true := by
    rcases hbuf with ⟨_, rfl⟩ | ⟨_, _, _, rfl, _⟩ <;> rfl
  obtain ⟨s3, k3⟩ := hs2.set1 (cup_of_some hb2) (o := 1) (x := q') (by simp) hone hr2
  rw [← cup_upd] at s3 k3
  refine ⟨rfl, q', upd σ' b [.ptr b 0, q'], disj_upd hd2 (hd2.other hb2), s3, (hk1.trans hk2).trans k3, upd_same _ _ _, ?_, hqb', fun d e1 e2 e3 => ((upd_ne _ _ e1).trans (hfr d e2 e3)).trans (hf1 d e1), fun d hd => ?_⟩
  · rcases hbuf with h | ⟨g, cap, hl0, rfl, h⟩
    · exact .inl h
    · exact .inr ⟨g, cap, hl0, rfl, (upd_ne _ _ (fun e => hqb' (by rw [e]; rfl))).trans h⟩
  · rcases hnew d hd with h | h
    · exact .inl h
    · have : d ≠ b := fun e => by rw [e, hb1] at h; cases h
      exact .inr ((hf1 d this).symm.trans h)
theorem mixedOn : Tryz.prog.follows Departure.mixedOrders = true := by kernel_rfl
set_option maxHeartbeats 2000000 in
set_option maxRecDepth 100000 in
theorem str_nil {b : Nat} (c1 : w.cell? ⟨b, 1, none⟩ = some (.slice none 0 0)) :
    Calls Tryz.prog 104 #[.pointer (some ⟨b, 0, none⟩)] w fun e w' => e = .returned (.string ⟨#[]⟩) ∧ w' = w.drew := by
  have mixed := mixedOn
  have c1' : w.drew.cell? ⟨b, 1, none⟩ = some (.slice none 0 0) := c1
  have hSD : (Builtin.unsafeSliceData_ #[43] 181 #[.slice none 0 0]).run Tryz.prog w.drew = .ok (.pointer none) w.drew := rfl
  have hUS : ∀ (W : World) (q : Option Addr), (Builtin.unsafeString_ #[181, 3] 9 #[.pointer q, .int .i64 0]).run Tryz.prog W = .ok (.string .empty) W := fun W q => Lib.run_unsafeString_none W _ _ _ q
  go_enter Tryz.func104, Tryz.ntmps104
  go_wp2
  go_region_o
  all_goals (go_wp2; go_ret; exact ⟨rfl, rfl⟩)
set_option maxHeartbeats 2000000 in
set_option maxRecDepth 100000 in
theorem str_row {b g cap : Nat} {l : List UInt8} (c1 : w.cell? ⟨b, 1, none⟩ = some (.slice (some ⟨g, 0, none⟩) l.length cap)) (h0 : cap ≠ 0)
    (hUS : (Builtin.unsafeString_ #[181, 3] 9 #[.pointer (some ⟨g, 0, none⟩), .int .i64 l.length]).run Tryz.prog w.drew = .ok (.string ⟨l.toArray⟩) (w.drew.freeze ⟨g, 0, none⟩ l.length)) :
    Calls Tryz.prog 104 #[.pointer (some ⟨b, 0, none⟩)] w fun e w' => e = .returned (.string ⟨l.toArray⟩) ∧ w' = w.drew.freeze ⟨g, 0, none⟩ l.length := by
  have mixed := mixedOn
  have c1' : w.drew.cell? ⟨b, 1, none⟩ = some (.slice (some ⟨g, 0, none⟩) l.length cap) := c1
  have hSD : (Builtin.unsafeSliceData_ #[43] 181 #[.slice (some ⟨g, 0, none⟩) l.length cap]).run Tryz.prog w.drew = .ok (.pointer (some ⟨g, 0, none⟩)) w.drew :=
    Lib.run_unsafeSliceData_row _ _ _ _ _ _ h0
  go_enter Tryz.func104, Tryz.ntmps104
  go_wp2
  go_region_o
  all_goals (go_wp2; go_ret; exact ⟨rfl, rfl⟩)
end Go.Proofs.YtjibkkhgejcjeaaGreatDoor.Lg
/- The builder's contracts. -/
set_option linter.unusedSimpArgs false
set_option linter.unusedVariables false
namespace Go.Proofs.YtjibkkhgejcjeaaGreatDoor.Lg
open Go Go.Lib Go.RowKit Go.Proofs
variable {Γ σ σ0 τ : St} {w : World}
/-- A builder that is new, its buffer too, and what it holds. -/
def BldAt (σ0 : St) (b : Nat) (l : List UInt8) (s : St) : Prop :=
  σ0 b = none ∧ ∃ p q, (p = .bnil b 147 2 ∨ p = .ptr b 0) ∧ s b = some [p, q] ∧ BufAt s l q ∧ blkB q ≠ some b ∧ (∀ d, blkB q = some d → σ0 d = none) ∧ ∀ d c, σ0 d = some c → s d = some c
theorem BldAt.start {b : Nat} (hb : σ b = none) : BldAt σ b [] (upd σ b [.bnil b 147 2, .nsl]) :=
  ⟨hb, _, _, .inl rfl, upd_same _ _ _, .inl ⟨rfl, rfl⟩, fun h => (by cases h), fun d h => (by cases h), le_upd hb⟩
theorem BldAt.le {b : Nat} {l : List UInt8} {s : St} (h : BldAt σ0 b l s) : ∀ d c, σ0 d = some c → s d = some c := by
  obtain ⟨_, _, _, _, _, _, _, _, h⟩ := h; exact h
theorem WriteString_ok {b : Nat} {l s : List UInt8} (h : BldAt σ0 b l σ) (h0 : s ≠ []) (hfit : l.length + s.length ≤ 140737488355328) : ACalls Tryz.prog Γ 101 [.ptr b 0, .str s] σ fun r s' => r = .tup [.int .i64 s.length, .nilif] ∧ BldAt σ0 b (l ++ s) s' := by
  obtain ⟨hb0, p, q, hp, hb, hq, hqb, hn, hle⟩ := h
  refine ⟨by kernel_rfl, fun τ w c hd hs hgl hr => ?_⟩
  obtain ⟨u, v, rfl, h1, h2⟩ := args2 hr
  have := rep_ptr_inv h1
  subst this
  have := rep_str_inv h2
  subst this
  refine (ws_calls hd hs hp hb hq hqb h0 hfit).mono ?_
  rintro e w' ⟨rfl, q', σ', hd', hs', hk', hb', hq', hqb', hfr, hnew⟩
  have hn' : ∀ d, blkB q' = some d → σ0 d = none := fun d hd2 => by
    rcases hnew d hd2 with h | h
    · exact hn d h
    · exact none_of hle d h
  refine ⟨_, _, σ', rfl, ⟨rfl, hb0, _, q', .inr rfl, hb', hq', hqb', hn', fun d c hc => ?_⟩, hd', hs', ?_, hk'⟩
  · rw [hfr d (fun e => by rw [e, hb0] at hc; cases hc) (fun e => by rw [hn d e] at hc; cases hc) (fun e => by rw [hn' d e] at hc; cases hc)]
    exact hle d c hc
  · refine .tup _ _ rfl fun i x hx => ?_
    match i with
    | 0 => simp at hx; subst hx; exact .int _ _
    | 1 => simp at hx; subst hx; exact .nilif
    | i + 2 => simp at hx
theorem freeze_is (w : World) (g n : Nat) : (w.freeze ⟨g, 0, none⟩ n).heap.size = w.heap.size ∧ (∀ k, k ≠ g → (w.freeze ⟨g, 0, none⟩ n).heap[k]? = w.heap[k]?) ∧ (∀ arr e fz, w.heap[g]? = some (.cells arr e fz) → ∃ fz', (w.freeze ⟨g, 0, none⟩ n).heap[g]? = some (.cells arr e fz')) ∧ SameIO w (w.freeze ⟨g, 0, none⟩ n) := by
  unfold World.freeze
  split
  · exact ⟨rfl, fun _ _ => rfl, fun arr e fz h => ⟨fz, h⟩, rfl, rfl, rfl⟩
  · refine ⟨by simp, fun k hk => ?_, fun arr e fz h => ?_, rfl, rfl, rfl⟩
    · simp only [Array.getElem?_modify]
      rw [if_neg (Ne.symm hk)]
    · simp only [Array.getElem?_modify, if_true, h]
      exact ⟨_, rfl⟩
theorem String_ok {b : Nat} {l : List UInt8} (h : BldAt σ0 b l σ) (hl : l.length ≤ 140737488355328) : Ret Tryz.prog Γ 104 [.ptr b 0] σ (.str l) σ0 := by
  obtain ⟨hb0, p, q, hp, hb, hq, hqb, hn, hle⟩ := h
  refine ⟨by kernel_rfl, fun τ w c hd hs hgl hr => ?_⟩
  obtain ⟨u, rfl, h1⟩ := args1 hr
  have := rep_ptr_inv h1
  subst this
  have hd0 : disj σ0 τ := fun d => by
    rcases hd d with h | h
    · exact .inl (none_of hle d h)
    · exact .inr h
  have hcle : ∀ d c, cup σ0 τ d = some c → cup σ τ d = some c := fun d c hc => by
    unfold cup at *
    cases h : σ0 d with
    | some c' => rw [h] at hc; rw [hle _ _ h]; exact hc
    | none =>
      rw [h] at hc
      have := hd.symm_none hc
      rw [this]; exact hc
  have hown : ∀ d, own (cup σ0 τ) d → own (cup σ τ) d := fun d hd2 => by
    unfold own at *
    obtain ⟨c, hc⟩ := Option.isSome_iff_exists.1 hd2
    rw [hcle _ _ hc]; rfl
  have hsL : Sim (cup σ0 τ) w := hs.less hcle
  obtain ⟨v, c1, r1⟩ := hs.cell (cup_of_some hb) (i := 1) rfl
  rcases hq with ⟨rfl, rfl⟩ | ⟨g, cap, hl0, rfl, hg⟩
  · cases r1
    refine (str_nil c1).mono ?_
    rintro e w' ⟨rfl, rfl⟩
    have hk : Keep w w.drew (own (cup σ0 τ)) (own (cup σ0 τ)) := .eqHeap rfl
    exact ⟨.str [], _, σ0, rfl, ⟨rfl, rfl⟩, hd0, hsL.keep hk (fun _ _ => rfl), .str [], ⟨Nat.le_refl _, fun _ _ _ => rfl, fun d arr e fz h => ⟨arr, fz, h, rfl⟩, fun d h => .inl (hown d h), rfl, rfl, rfl⟩⟩
  · cases r1 with
    | mslT _ _ _ _ arr fz hw hcap hlc =>
      have hpos := List.length_pos_iff.2 hl0
      have hcell : ∀ (j : Nat) (x : UInt8), l[j]? = some x → w.drew.cell? ((⟨g, 0, none⟩ : Addr).add j) = some (.int .u8 x.toNat) := fun j x hx => by
        obtain ⟨u, h1, h2⟩ := hs.cell (cup_of_some hg) (i := j) (x := .int .u8 (x.toNat : Int)) (by simp [u8s, hx])
        have := rep_int_inv h2
        subst this
        rw [addr_add, Nat.zero_add]
        exact h1
      have hUS : (Builtin.unsafeString_ #[181, 3] 9 #[.pointer (some ⟨g, 0, none⟩), .int .i64 l.length]).run Tryz.prog w.drew = .ok (.string ⟨l.toArray⟩) (w.drew.freeze ⟨g, 0, none⟩ l.length) :=
        Lib.run_unsafeString_row w.drew _ _ _ _ Tryz.underlying181 (by kernel_rfl) g arr.size (by have hg' : w.drew.heap[g]? = some (.cells arr 5 fz) := hw; simp [World.shape?, hg']) l hl0 (by omega) (by omega) hcell
      refine (str_row c1 (by omega) hUS).mono ?_
      rintro e w' ⟨rfl, rfl⟩
      obtain ⟨f1, f2, f3, f4⟩ := freeze_is w.drew g l.length
      have hg0 : σ0 g = none := hn g rfl
      have hgt : τ g = none := hd.other hg
      have hgo : ¬ own (cup σ0 τ) g := by simp [own, cup, hg0, hgt]
      have hk : Keep w (w.drew.freeze ⟨g, 0, none⟩ l.length) (own (cup σ τ)) (own (cup σ0 τ)) := by
        refine ⟨Nat.le_of_eq f1.symm, fun d h1 h2 => f2 d (fun e => h2 (by rw [e]; exact own_of_some (cup_of_some hg))), fun d ar e fz1 h1 => ?_, fun d h => .inl (hown d h), f4.1, f4.2.1, f4.2.2⟩
        by_cases e2 : d = g
        · subst e2
          obtain ⟨fz', h2⟩ := f3 ar e fz1 h1
          exact ⟨ar, fz', h2, rfl⟩
        · exact ⟨ar, fz1, (f2 d e2).trans h1, rfl⟩
      have hk0 : Keep w (w.drew.freeze ⟨g, 0, none⟩ l.length) (own (cup σ τ)) (own (cup σ0 τ)) := hk
      have hs0 : Sim (cup σ0 τ) (w.drew.freeze ⟨g, 0, none⟩ l.length) := by
        intro d cs hd2
        obtain ⟨ar, e, fz1, g1, g2, g3, g4⟩ := hsL d cs hd2
        have hdg : d ≠ g := fun e2 => hgo (by rw [← e2]; exact own_of_some hd2)
        obtain ⟨ar2, e2', fz2, k1, k2, k3, k4⟩ := hs d cs (hcle _ _ hd2)
        rw [g1] at k1; injection k1 with k1; injection k1 with k1 k1' k1''
        subst k1 k1' k1''
        exact ⟨ar, e, fz1, (f2 d hdg).trans g1, g2, g3, fun i x hx => ⟨(g4 i x hx).1, (k4 i x hx).2.keep hk⟩⟩
      exact ⟨.str l, _, σ0, rfl, ⟨rfl, rfl⟩, hd0, hs0, .str l, hk⟩
end Go.Proofs.YtjibkkhgejcjeaaGreatDoor.Lg
