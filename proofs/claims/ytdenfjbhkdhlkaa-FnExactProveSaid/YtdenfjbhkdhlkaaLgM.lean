/- The own logic: rows of zeros that are appended to nothing, rows that are cleared, rows that are copied. It holds for every program. -/
import Derived.Test.YtdenfjbhkdhlkaaLgS
set_option linter.unusedSimpArgs false
set_option linter.unusedVariables false
namespace Go.Proofs.Ytdenfjbhkdhlkaa.Lg
open Go

section
variable {P : Program} {Γ : St}
theorem inv_appz {o : Oper} {es by_ : Nat} {z : List V} {s x : Opd} (hc : compI P o = some (.appz es by_ z s x)) : ∃ c u v t1 t2 e k, o.op = .call c ∧ c.callee = .builtin .append ∧ c.args = #[u, v] ∧ c.argTypes[0]? = some t1 ∧ P.underlying t1 = some (.slice e) ∧ c.argTypes[1]? = some t2 ∧
  P.underlying t2 = some (.int k) ∧ es = P.cellsOf e ∧ by_ = P.bytesOf e ∧ es ≠ 0 ∧ by_ ≠ 0 ∧ by_ ≤ 1000 ∧ zeroOf P e = some z ∧ opd u = some s ∧ opd v = some x := by
 cases ho : o.op with
 | call c =>
  obtain ⟨callee, as, tys⟩ := c
  simp only [compI, ho] at hc
  cases callee with
  | builtin b =>
   cases b <;> simp only [reduceCtorEq] at hc <;> try ((repeat' split at hc) <;> first | (simp at hc; done) | (simp only [Option.map_eq_some_iff, Option.bind_eq_bind, Option.bind_eq_some_iff, Option.some.injEq, reduceCtorEq, and_false, exists_false] at hc; done))
   case append =>
    split at hc
    ·exfalso
     split at hc
     ·cases hc
     ·simp only [Option.bind_eq_bind, Option.bind_eq_some_iff, Option.some.injEq, reduceCtorEq, and_false, exists_false] at hc
    ·exfalso
     split at hc
     ·cases hc
     ·simp only [Option.bind_eq_bind, Option.bind_eq_some_iff, Option.some.injEq, reduceCtorEq, and_false, exists_false] at hc
    ·rename_i u v e k h1 h2 h3
     obtain ⟨t1, g1, g2⟩ := Option.bind_eq_some_iff.1 h2
     obtain ⟨t2, g3, g4⟩ := Option.bind_eq_some_iff.1 h3
     split at hc
     case isTrue => cases hc
     case isFalse hn =>
     simp only [Bool.or_eq_true, decide_eq_true_eq, not_or] at hn
     simp only [Option.bind_eq_bind, Option.bind_eq_some_iff, Option.some.injEq, I.appz.injEq] at hc
     obtain ⟨z', hz, s', hs', x', hx', rfl, rfl, rfl, rfl, rfl⟩ := hc
     exact ⟨_, u, v, t1, t2, e, k, rfl, rfl, by simpa using congrArg List.toArray h1, g1, g2, g3, g4, rfl, rfl, hn.1.1, hn.1.2, by have := hn.2; omega, hz, hs', hx'⟩
    ·cases hc
  | value u => simp only [Option.bind_eq_bind, Option.bind_eq_some_iff, Option.some.injEq, reduceCtorEq, and_false, exists_false] at hc
  | invoke r m => simp at hc
 | _ => exfalso; simp only [compI, ho] at hc; (repeat' split at hc) <;> first | (simp at hc; done) | (simp only [Option.bind_eq_bind, Option.bind_eq_some_iff] at hc; obtain ⟨fd, _, hc⟩ := hc; split at hc <;> first | (simp at hc; done) | (simp only [Option.bind_eq_some_iff, Option.some.injEq, reduceCtorEq, and_false, exists_false] at hc; done)) | (simp only [Option.map_eq_some_iff, Option.bind_eq_bind, Option.bind_eq_some_iff, Option.some.injEq, reduceCtorEq, and_false, exists_false] at hc; done) | (simp_all; done)
theorem inv_clear {o : Oper} {es : Nat} {z : List V} {x : Opd} (hc : compI P o = some (.clear es z x)) : ∃ c u t1 e, o.op = .call c ∧ c.callee = .builtin .clear ∧ c.args = #[u] ∧ c.argTypes[0]? = some t1 ∧ P.underlying t1 = some (.slice e) ∧ es = P.cellsOf e ∧ zeroOf P e = some z ∧ opd u = some x := by
 cases ho : o.op with
 | call c =>
  obtain ⟨callee, as, tys⟩ := c
  simp only [compI, ho] at hc
  cases callee with
  | builtin b =>
   cases b <;> simp only [reduceCtorEq] at hc <;> try ((repeat' split at hc) <;> first | (simp at hc; done) | (simp only [Option.map_eq_some_iff, Option.bind_eq_bind, Option.bind_eq_some_iff, Option.some.injEq, reduceCtorEq, and_false, exists_false] at hc; done) | ((try split at hc) <;> first | (cases hc; done) | (simp only [Option.bind_eq_bind, Option.bind_eq_some_iff, Option.some.injEq, reduceCtorEq, and_false, exists_false] at hc; done)))
   case clear =>
    split at hc
    ·rename_i u e h1 h2
     obtain ⟨t1, g1, g2⟩ := Option.bind_eq_some_iff.1 h2
     simp only [Option.bind_eq_bind, Option.bind_eq_some_iff, Option.some.injEq, I.clear.injEq] at hc
     obtain ⟨z', hz, x', hx', rfl, rfl, rfl⟩ := hc
     exact ⟨_, u, t1, e, rfl, rfl, by simpa using congrArg List.toArray h1, g1, g2, rfl, hz, hx'⟩
    ·cases hc
  | value u => simp only [Option.bind_eq_bind, Option.bind_eq_some_iff, Option.some.injEq, reduceCtorEq, and_false, exists_false] at hc
  | invoke r m => simp at hc
 | _ => exfalso; simp only [compI, ho] at hc; (repeat' split at hc) <;> first | (simp at hc; done) | (simp only [Option.bind_eq_bind, Option.bind_eq_some_iff] at hc; obtain ⟨fd, _, hc⟩ := hc; split at hc <;> first | (simp at hc; done) | (simp only [Option.bind_eq_some_iff, Option.some.injEq, reduceCtorEq, and_false, exists_false] at hc; done)) | (simp only [Option.map_eq_some_iff, Option.bind_eq_bind, Option.bind_eq_some_iff, Option.some.injEq, reduceCtorEq, and_false, exists_false] at hc; done) | (simp_all; done)
theorem run_growz {w : World} {t1 t2 ty e : TypeId} {it : TypeInfo} {z : Value} {k k2 : IntKind} {base : Option Addr} {n : Nat} (h1 : P.underlying t1 = some (.slice e)) (h2 : P.underlying t2 = some (.int k))
  (hi : P.info? e = some it) (hz : it.zero = some z) (hb : it.bytes ≠ 0) (hs : it.size ≠ 0) (hn : 0 < n) (hold : ∀ w1, w1.heap = w.heap → (Builtin.firstCells it.size 0 (.slice base 0 0)).run P w1 = .ok #[] w1) (hfit : n * it.bytes ≤ 140737488355328) :
  ∃ rest cap', (Builtin.append_ #[t1, t2] ty #[.slice base 0 0, .int k2 n]).run P w = .ok (.slice (some ⟨w.heap.size, 0, none⟩) n cap') (w.drew.alloc (.cells (Builtin.zeroCells z.cells n ++ rest) e)) ∧ n ≤ cap' ∧ rest.size = (cap' - n) * z.cells.size := by
 have hbig : n ≤ 140737488355328 := Nat.le_trans (Nat.le_mul_of_pos_right _ (Nat.pos_of_ne_zero hb)) hfit
 have hw : IntKind.i64.wrap (n : Int) = (n : Int) := wrap64 (by omega) (by omega)
 have hneg : ¬ ((n : Int) < 0) := by omega
 have hnb : (n : Int) * (it.bytes : Int) ≤ 140737488355328 := by
  have : ((n * it.bytes : Nat) : Int) ≤ 140737488355328 := by omega
  rwa [Int.natCast_mul] at this
 have hnb2 : ¬ (281474976710656 < (n : Int) * (it.bytes : Int)) := by omega
 have h63' : ¬ (9223372036854775807 < (n : Int)) := by omega
 have h48' : ¬ (281474976710656 < Builtin.nextslicecap n 0 * it.bytes) := by
  have := growslice_fits (need := n) (old := 0) (bytes := it.bytes) hn hfit; omega
 have hns : ¬ (n * it.size = 0) := by
  intro e; rcases Nat.mul_eq_zero.1 e with e | e
  ·omega
  ·exact hs e
 have hns2 : ¬ (n = 0 ∨ it.size = 0) := by omega
 have hn0 : ¬ n = 0 := by omega
 refine ⟨Builtin.zeroCells z.cells (grownCap w n 0 e - n), grownCap w n 0 e, ?_, grownCap_ge w _ _ _, size_zeroCells _ _⟩
 have hfo := hold w.drew rfl
 simp [Builtin.append_, run_underlying h1, run_underlying h2, sizeOf, typeInfo, zeroValue, asInt, asIntOf, hi, hz, hw, hneg, hnb2, hn0, hs, h63', h48', hb, Question.forced, hfo, newRow, grownCap]
 intro h; exact absurd h hns
theorem size_zeroCells' (z : Array Value) (n : Nat) : (Builtin.zeroCells z n).size = n * z.size := by simp [Builtin.zeroCells]
theorem zeroCells_get {z : Array Value} {n i : Nat} (h : i < n * z.size) : (Builtin.zeroCells z n).getD i undef = z.getD (i % z.size) undef := by
 have hz : 0 < z.size := by
  rcases Nat.eq_zero_or_pos z.size with e | e
  ·rw [e] at h; omega
  ·exact e
 have hm : i % z.size < z.size := Nat.mod_lt _ hz
 simp [Builtin.zeroCells, Array.getD_eq_getD_getElem?, h, hm, getElem!_pos]
/-- A row of zeros that is appended to nothing. -/
theorem InsOK.appz0 {es by_ : Nat} {z : List V} {s x : Opd} {T : Ts} {σ : St} {G : V → St → Prop} {es' : Nat} {k2 : IntKind} {n : Nat} (hs : ev Γ T s = .isl true es' []) (hx : ev Γ T x = .int k2 n) (hn : 0 < n) (hzl : z.length = es) (hfit : n * by_ ≤ 140737488355328)
  (hG : ∀ b cap, σ b = none → n ≤ cap → G (.msl b es 0 n cap) (upd σ b (List.replicate n z).flatten)) : InsOK P Γ (.appz es by_ z s x) T σ G := by
 intro o hc τ w a hpre
 obtain ⟨c, u, v, t1, t2, e, k, ho, hcal, hargs, ht1, hu1, ht2, hu2, hese, hbye, hes, hby, hby2, hz, hso, hxo⟩ := inv_appz hc
 obtain ⟨it, zv, hit, hiz, hzr⟩ := zero_ok (w := w) (O := own (cup σ τ)) hz
 obtain rfl : es = it.size := hese.trans (by simp [Program.cellsOf, hit])
 obtain rfl : by_ = it.bytes := hbye.trans (by simp [Program.bytesOf, hit])
 have r1 := ev_rep hpre hso
 have r2 := ev_rep hpre hxo
 rw [hs] at r1; rw [hx] at r2
 obtain ⟨ad, cp, hev, h1, h2⟩ := r1.isl_len
 obtain rfl := h2 rfl
 have hev2 := rep_int_inv r2
 have hats : ∃ ats', c.argTypes = #[t1, t2] ++ ats' := by
  refine ⟨c.argTypes.extract 2 c.argTypes.size, ?_⟩
  apply Array.ext'
  rw [← Array.getElem?_toList] at ht1 ht2
  simp only [Array.toList_append, Array.toList_extract]
  cases hl : c.argTypes.toList with
  | nil => rw [hl] at ht1; simp at ht1
  | cons p q =>
   cases q with
   | nil => rw [hl] at ht2; simp at ht2
   | cons p2 q2 =>
    rw [hl] at ht1 ht2
    simp at ht1 ht2
    subst ht1 ht2
    have hz2 : c.argTypes.size = (p :: p2 :: q2).length := by rw [← hl]; simp
    simp [List.extract, hz2]
 have happ : ∀ (as : Array Value), Builtin.append_ c.argTypes o.type as = Builtin.append_ #[t1, t2] o.type as := by
  intro as
  unfold Builtin.append_
  rw [ht1, ht2]
  simp
 have hexec : ∀ (val : Value) (w' : World), (Builtin.append_ #[t1, t2] o.type #[a.eval u, a.eval v]).run P w = .ok val w' → (execOp a.eval o).run P w = .ok (.value val) w' := by
  intro val w' h
  rw [← happ] at h
  simp [execOp, ho, resolve, hcal, hargs, invoke, builtin, h]
 have hzs : zv.cells.size = it.size := by rw [← hzr.1, hzl]
 obtain ⟨rest, cap', hrun, hcap, hrest⟩ := run_growz (P := P) (w := w) (ty := o.type) (k2 := k2) (base := ad) hu1 hu2 hit hiz hby hes hn (fun w1 _ => by cases ad <;> simp [Builtin.firstCells, loadCells, loadCellsFrom]) hfit
 simp only [List.length_nil] at hev
 rw [← hev, ← hev2] at hrun
 unfold Oper.wp
 rw [hexec _ _ hrun]
 have hfr := hpre.sim.fresh2
 obtain ⟨s1, s2⟩ := Sim.new (w' := w.drew.alloc (.cells (Builtin.zeroCells zv.cells n ++ rest) e)) (cs := (List.replicate n z).flatten) hpre.sim rfl (by rw [flatten_rep_len, hzl]; simp only [Array.size_append, size_zeroCells', hzs]; omega) (fun i x hx => by
  have hi : i < n * it.size := by have := (List.getElem?_eq_some_iff.1 hx).1; rw [flatten_rep_len, hzl] at this; exact this
  have hg := flatten_rep_get hx
  obtain ⟨g1, g2⟩ := hzr.2 _ x hg
  refine ⟨g1, ?_⟩
  rw [getD_append_left (by rw [size_zeroCells', hzs]; exact hi), zeroCells_get (by rw [hzs]; exact hi), hzs, ← hzl]
  exact g2)
 rw [← cup_upd] at s1 s2
 refine ⟨.msl w.heap.size it.size 0 n cap', _, _, rfl, hG _ _ hfr.1 hcap, disj_upd hpre.dj hfr.2, s1, .msl _ _ _ _ _ (Builtin.zeroCells zv.cells n ++ rest) e (0, 0) (heap_alloc_new w.drew _) ?_ hcap, s2⟩
 simp only [Array.size_append, size_zeroCells', hrest, hzs, ← Nat.add_mul]
 have : n + (cap' - n) = cap' := by omega
 rw [this]; omega
/-- A row that is owned is cleared. -/
theorem InsOK.clear {es : Nat} {z : List V} {x : Opd} {T : Ts} {σ : St} {G : V → St → Prop} {b off len cap : Nat} {cs : List V} (hx : ev Γ T x = .msl b es off len cap) (hb : σ b = some cs) (hle : off + len * es ≤ cs.length) (hzl : z.length = es)
    (hG : G (.tup []) (upd σ b (cs.take off ++ (List.replicate len z).flatten ++ cs.drop (off + len * es)))) : InsOK P Γ (.clear es z x) T σ G := by
  intro o hc τ w a hpre
  obtain ⟨c, u, t1, e, ho, hcal, hargs, ht1, hu1, hese, hz, hxo⟩ := inv_clear hc
  obtain ⟨it, zv, hit, hiz, hzr⟩ := zero_ok (w := w) (O := own (cup σ τ)) hz
  obtain rfl : es = it.size := hese.trans (by simp [Program.cellsOf, hit])
  have r1 := ev_rep hpre hxo
  rw [hx] at r1
  obtain ⟨arr, e', fz, hev, g1, g2, g3⟩ := rep_msl_inv r1
  obtain ⟨arr0, e0, fz0, k1, k2, k3, k4⟩ := hpre.sim b cs (cup_of_some hb)
  rw [g1] at k1; injection k1 with k1; injection k1 with k1 k1' k1''
  subst k1 k1' k1''
  have hzs : zv.cells.size = it.size := by rw [← hzr.1, hzl]
  have hexec : ∀ (w' : World), (Builtin.clear_ #[t1] o.type #[a.eval u]).run P w = .ok (.tuple #[]) w' → (execOp a.eval o).run P w = .ok (.value (.tuple #[])) w' := by
    intro w' h
    have hcl : Builtin.clear_ c.argTypes o.type #[a.eval u] = Builtin.clear_ #[t1] o.type #[a.eval u] := by
      unfold Builtin.clear_
      rw [ht1]; rfl
    rw [← hcl] at h
    simp [execOp, ho, resolve, hcal, hargs, invoke, builtin, h]
  have hvl : (Builtin.zeroCells zv.cells len).toList.length = len * it.size := by simp [size_zeroCells', hzs]
  obtain ⟨w', arr', q1, q2, q3, q4, q5, q6, q7, q8⟩ := run_storeCells_raw (P := P) (b := b) (off := off) (Builtin.zeroCells zv.cells len).toList 0 arr w g1 (by rw [hvl]; omega) (fun v hv => by
    obtain ⟨i, hi, rfl⟩ := List.getElem_of_mem hv
    rw [hvl] at hi
    have hlt : i % it.size < z.length := by
      rw [hzl]; exact Nat.mod_lt _ (by rcases Nat.eq_zero_or_pos it.size with e | e
                                       · rw [e] at hi; omega
                                       · exact e)
    obtain ⟨y1, y2⟩ := hzr.2 (i % it.size) z[i % it.size] (by simp)
    have h3 := zeroCells_get (z := zv.cells) (n := len) (i := i) (by rw [hzs]; exact hi)
    rw [hzs] at h3
    have := y2.oneCell y1
    rw [← h3] at this
    have hi2 : i < (Builtin.zeroCells zv.cells len).size := by rw [size_zeroCells', hzs]; exact hi
    simpa [Array.getD_eq_getD_getElem?, hi2] using this) k2
  have hrun : (Builtin.clear_ #[t1] o.type #[a.eval u]).run P w = .ok (.tuple #[]) w' := by
    rw [hev]
    by_cases h0 : len = 0
    · subst h0
      have hw : w' = w := by
        have : (Builtin.zeroCells zv.cells 0).toList = [] := List.eq_nil_of_length_eq_zero (by simp [size_zeroCells'])
        rw [this] at q1
        simp [storeCells] at q1
        exact q1.symm
      rw [hw]
      simp [Builtin.clear_, run_underlying hu1]
    · obtain ⟨m, rfl⟩ : ∃ m, len = m + 1 := ⟨len - 1, by omega⟩
      simp [Builtin.clear_, run_underlying hu1, zeroValue, typeInfo, hit, hiz, q1]
  unfold Oper.wp
  rw [hexec _ hrun]
  have hfl : (List.replicate len z).flatten.length = len * it.size := by rw [flatten_rep_len, hzl]
  obtain ⟨s1, s2⟩ := Sim.write (cs' := cs.take off ++ (List.replicate len z).flatten ++ cs.drop (off + len * it.size)) hpre.sim (cup_of_some hb) g1 q4 q2 q5 q3 (by simp only [List.length_append, List.length_take, hfl, List.length_drop]; omega) (fun i y hy => by
    rcases Nat.lt_or_ge i off with h1 | h1
    · rw [List.append_assoc, List.getElem?_append_left (by simp; omega), List.getElem?_take, if_pos h1] at hy
      rw [q6 i (by omega)]
      exact k4 i y hy
    · rcases Nat.lt_or_ge i (off + len * it.size) with h2 | h2
      · rw [List.getElem?_append_left (by simp only [List.length_append, List.length_take, hfl]; omega), List.getElem?_append_right (by simp; omega)] at hy
        have hl2 : (cs.take off).length = off := by simp; omega
        rw [hl2] at hy
        have hg := flatten_rep_get hy
        obtain ⟨y1, y2⟩ := hzr.2 _ y hg
        refine ⟨y1, ?_⟩
        have h3 := q7 (i - off) (by rw [hvl]; omega)
        rw [show off + 0 + (i - off) = i by omega] at h3
        rw [h3]
        have hi2 : i - off < (Builtin.zeroCells zv.cells len).size := by rw [size_zeroCells', hzs]; omega
        have h4 := zeroCells_get (z := zv.cells) (n := len) (i := i - off) (by rw [hzs]; omega)
        rw [hzs, ← hzl] at h4
        have h5 : (Builtin.zeroCells zv.cells len).toList.getD (i - off) undef = (Builtin.zeroCells zv.cells len).getD (i - off) undef := by
          simp [List.getD, Array.getD_eq_getD_getElem?, hi2]
        rw [h5, h4]
        exact y2
      · have hl3 : (cs.take off ++ (List.replicate len z).flatten).length = off + len * it.size := by simp only [List.length_append, List.length_take, hfl]; omega
        rw [List.getElem?_append_right (by omega), hl3, List.getElem?_drop, show off + len * it.size + (i - (off + len * it.size)) = i by omega] at hy
        rw [q6 i (by rw [hvl]; omega)]
        exact k4 i y hy) q8
  rw [← cup_upd] at s1 s2
  exact ⟨_, _, _, rfl, hG, disj_upd hpre.dj (hpre.dj.other hb), s1, .tup [] #[] rfl fun i x hx => by simp at hx, s2⟩
variable {f : FuncId} {n : Nat} {k : List It} {T : Ts} {σ : St} {Q : V → St → Prop} {d : Option Nat} {l : List GI}
theorem SRun.appz0 {es by_ : Nat} {z : List V} {s x : Opd} {es' : Nat} {k2 : IntKind} {n' : Nat} (hs : ev Γ T s = .isl true es' []) (hx : ev Γ T x = .int k2 n') (hn : 0 < n') (hzl : z.length = es) (hfit : n' * by_ ≤ 140737488355328)
  (hk : ∀ b cap, σ b = none → n' ≤ cap → W P Γ f n Q (.ops l :: k) (putT T d (.msl b es 0 n' cap)) (upd σ b (List.replicate n' z).flatten)) : SRun P Γ f n (.ops (⟨d, none, .appz es by_ z s x⟩ :: l) :: k) T σ Q :=
 SRun.op (G := fun y s' => ∃ b cap, σ b = none ∧ n' ≤ cap ∧ y = .msl b es 0 n' cap ∧ s' = upd σ b (List.replicate n' z).flatten) rfl (InsOK.appz0 hs hx hn hzl hfit fun b cap h h' => ⟨b, cap, h, h', rfl, rfl⟩) (fun y s' ⟨b, cap, h, h', e1, e2⟩ => by subst e1 e2; exact (hk b cap h h').sound)
theorem SRun.clearR {es : Nat} {z : List V} {x : Opd} {b off len cap : Nat} {cs : List V} (hx : ev Γ T x = .msl b es off len cap) (hb : σ b = some cs) (hle : off + len * es ≤ cs.length) (hzl : z.length = es)
  (hk : W P Γ f n Q (.ops l :: k) (putT T d (.tup [])) (upd σ b (cs.take off ++ (List.replicate len z).flatten ++ cs.drop (off + len * es)))) : SRun P Γ f n (.ops (⟨d, none, .clear es z x⟩ :: l) :: k) T σ Q :=
 SRun.op (G := fun y s' => y = .tup [] ∧ s' = upd σ b (cs.take off ++ (List.replicate len z).flatten ++ cs.drop (off + len * es))) rfl (InsOK.clear hx hb hle hzl ⟨rfl, rfl⟩) (fun y s' ⟨e1, e2⟩ => by subst e1 e2; exact hk.sound)
end

/-! In regions that draw: what is guarded -/
section
variable {P : Program} {Γ : St} {f : FuncId} {n : Nat} {Q : V → St → Prop} {k : List It} {T : Ts} {σ : St}
theorem WrF.skip {d : Option Nat} {gd : Option (Nat × Bool)} {i : I} (hg : guardV Γ T ⟨d, gd, i⟩ = some false) : WrF P Γ σ T ⟨d, gd, i⟩ fun x s => x = .tup [] ∧ s = σ := .inl ⟨hg, rfl, rfl⟩
theorem WrF.callG {d : Option Nat} {gd : Option (Nat × Bool)} {x : Opd} {as : List Opd} {g : FuncId} {vs : List V} {G : V → St → Prop} (h : ACalls P Γ g vs σ G) (hv : ∃ caps, ev Γ T x = .fn g caps ∧ as.map (ev Γ T) ++ caps = vs) (hg : guardV Γ T ⟨d, gd, .call x as⟩ = some true) : WrF P Γ σ T ⟨d, gd, .call x as⟩ G := by
 obtain ⟨caps, h1, h2⟩ := hv
 refine .inr ⟨hg, fun T' hT => ?_⟩
 have he := ev_congr (Γ := Γ) (g := ⟨d, gd, .call x as⟩) hT
 refine InsOK.call (by rw [he x (by simp [I.opds])]; exact h1) ?_
 have : as.map (ev Γ T') = as.map (ev Γ T) := List.map_congr_left fun o ho => he o (by simp [I.opds, ho])
 rw [this, h2]; exact h
theorem DS.skipG {σr : St} {K : Ts → St → Prop} {d : Option Nat} {gd : Option (Nat × Bool)} {i : I} {r' : DT} (hg : guardV Γ T ⟨d, gd, i⟩ = some false) (hr : rdOK r' = true) (hk : DSW P Γ σr r' (putT T d (.tup [])) σ K) : DS P Γ σr (.wr ⟨d, gd, i⟩ r' .no) T σ K :=
 ⟨⟨_, .inl (WrF.skip hg), fun x s ⟨e1, e2⟩ _ => by subst e1 e2; exact DS.of hr hk⟩, trivial⟩
theorem DS.callG {σr : St} {K : Ts → St → Prop} {d : Option Nat} {gd : Option (Nat × Bool)} {r' : DT} {x : Opd} {as : List Opd} {g : FuncId} {vs : List V} {G : V → St → Prop} (h : ACalls P Γ g vs σ G) (hv : ∃ caps, ev Γ T x = .fn g caps ∧ as.map (ev Γ T) ++ caps = vs) (hg : guardV Γ T ⟨d, gd, .call x as⟩ = some true) (hr : rdOK r' = true)
  (hk : ∀ r s, G r s → disj s σr → DSW P Γ σr r' (putT T d r) s K) : DS P Γ σr (.wr ⟨d, gd, .call x as⟩ r' .no) T σ K :=
 ⟨⟨G, .inl (WrF.callG h hv hg), fun r s hG hd => DS.of hr (hk r s hG hd)⟩, trivial⟩
theorem DRun.skipG {d : Option Nat} {gd : Option (Nat × Bool)} {i : I} {segs : List DT} (hg : guardV Γ T ⟨d, gd, i⟩ = some false) (hk : WD P Γ f n Q k segs (putT T d (.tup [])) σ) : DRun P Γ f n Q (.wr ⟨d, gd, i⟩ .nil .no :: segs) k T σ :=
 DRun.wr1 (WrF.skip hg) fun r s ⟨e1, e2⟩ => by subst e1 e2; exact hk.sound
theorem DRun.callG {d : Option Nat} {gd : Option (Nat × Bool)} {segs : List DT} {x : Opd} {as : List Opd} {g : FuncId} {vs : List V} {G : V → St → Prop} (h : ACalls P Γ g vs σ G) (hv : ∃ caps, ev Γ T x = .fn g caps ∧ as.map (ev Γ T) ++ caps = vs) (hg : guardV Γ T ⟨d, gd, .call x as⟩ = some true)
  (hk : ∀ r s, G r s → WD P Γ f n Q k segs (putT T d r) s) : DRun P Γ f n Q (.wr ⟨d, gd, .call x as⟩ .nil .no :: segs) k T σ :=
 DRun.wr1 (WrF.callG h hv hg) fun r s hG => (hk r s hG).sound
end
end Go.Proofs.Ytdenfjbhkdhlkaa.Lg
