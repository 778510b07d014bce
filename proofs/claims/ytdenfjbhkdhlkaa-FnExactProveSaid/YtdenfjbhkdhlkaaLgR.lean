/- The own logic: slices held against nil, bodies that end without a return. It holds for every program. -/
import Derived.Test.YtdenfjbhkdhlkaaLgU
import Derived.Control
set_option linter.unusedSimpArgs false
set_option linter.unusedVariables false
namespace Go.Proofs.Ytdenfjbhkdhlkaa.Lg
open Go

section
variable {P : Program} {Γ : St}

theorem run_eql_slice {w : World} {t e : TypeId} (u : Option Addr) (n c : Nat) (ht : P.underlying t = some (.slice e)) (neg : Bool) :
  (binOp (if neg then .neq else .eql) t (.slice u n c) (.slice none 0 0)).run P w = .ok (.bool (bif neg then !u.isNone else u.isNone)) w := by
 have h : ∀ d : Nat, (Op.equalIn (d + 1) t (.slice u n c) (.slice none 0 0)).run P w = .ok u.isNone w := fun d => by
  cases u <;> simp [Op.equalIn, run_underlying ht]
 cases neg <;> simp only [binOp, Bool.false_eq_true, if_false, if_true] <;> simp [Op.equal, Op.maxDepth, h 9999]

theorem inv_eqs {o : Oper} {neg : Bool} {x : Opd} (hc : compI P o = some (.eqs neg x)) : ∃ t y t' e, o.op = .binOp (if neg then .neq else .eql) t y (.const (.slice none 0 0)) t' ∧ P.underlying t = some (.slice e) ∧ opd y = some x := by
  cases ho : o.op with
  | binOp op t y z t' =>
    simp only [compI, ho] at hc
    split at hc <;> first
      | (rename_i e hu
         split at hc
         · obtain ⟨x1, hx, he⟩ := Option.map_eq_some_iff.1 hc
           injection he with e1 e2
           subst e1 e2
           exact ⟨t, y, t', e, rfl, hu, hx⟩
         · cases hc)
      | (exfalso; (try split at hc) <;> first | (simp at hc; done) | (simp only [Option.map_eq_some_iff, Option.bind_eq_bind, Option.bind_eq_some_iff, Option.some.injEq, reduceCtorEq, and_false, exists_false] at hc; done))
  | _ => exfalso; simp only [compI, ho] at hc; (repeat' split at hc) <;> first | (simp at hc; done) | (simp only [Option.bind_eq_bind, Option.bind_eq_some_iff] at hc; obtain ⟨fd, _, hc⟩ := hc; split at hc <;> first | (simp at hc; done) | (simp only [Option.bind_eq_some_iff, Option.some.injEq, reduceCtorEq, and_false, exists_false] at hc; done)) | (simp only [Option.map_eq_some_iff, Option.bind_eq_bind, Option.bind_eq_some_iff, Option.some.injEq, reduceCtorEq, and_false, exists_false] at hc; done) | (simp_all; done)

/-- Is a slice nil? Of an empty one it is not told. -/
def nilAns (neg : Bool) : V → Bool → Prop
 | .isl _ _ xs, b => xs ≠ [] → b = neg
 | .msl _ _ _ _ _, b => b = neg
 | _, _ => False
theorem InsOK.eqs {neg : Bool} {x : Opd} {T : Ts} {σ : St} {G : V → St → Prop} (hx : (∃ ex es xs, ev Γ T x = .isl ex es xs) ∨ ∃ b es off len cap, ev Γ T x = .msl b es off len cap) (hG : ∀ b, nilAns neg (ev Γ T x) b → G (.bool b) σ) : InsOK P Γ (.eqs neg x) T σ G := by
 intro o hc τ w a hpre
 obtain ⟨t, y, t', e, ho, hu, hy⟩ := inv_eqs hc
 have r1 := ev_rep hpre hy
 have key : ∃ u n c, a.eval y = .slice u n c ∧ nilAns neg (ev Γ T x) (bif neg then !u.isNone else u.isNone) := by
  rcases hx with ⟨ex, es, xs, hx⟩ | ⟨b, es, off, len, cap, hx⟩
  ·rw [hx] at r1 ⊢
   obtain ⟨u, c, he, _⟩ := r1.isl_len
   refine ⟨u, _, c, he, fun hne => ?_⟩
   obtain ⟨b, off, c2, he2, _⟩ := r1.isl_mem hne
   rw [he] at he2
   injection he2 with e1 e2 e3
   subst e1
   cases neg <;> rfl
  ·rw [hx] at r1 ⊢
   obtain ⟨arr, e2, fz, he, _⟩ := rep_msl_inv r1
   refine ⟨_, _, _, he, ?_⟩
   show (bif neg then _ else _) = neg
   cases neg <;> rfl
 obtain ⟨u, n, c, he, hans⟩ := key
 have hg : (eqGuard (if neg then .neq else .eql) t y (.const (.slice none 0 0)) (a.eval y) (.slice none 0 0)).run P w = .ok () w := by rw [he]; exact run_eqGuard_plain (by simp) (by simp) w
 unfold Oper.wp
 have hrun : (execOp a.eval o).run P w = .ok (.value (.bool (bif neg then !u.isNone else u.isNone))) w := by
  have h2 := run_eql_slice (P := P) (w := w) u n c hu neg
  have h3 : a.eval (.const (.slice none 0 0)) = .slice none 0 0 := rfl
  cases neg <;> simp only [Bool.false_eq_true, if_false, if_true] at ho hg h2 <;> rw [he] at hg <;> simp [execOp, ho, h3, hg, he, h2]
 rw [hrun]
 exact ⟨_, _, σ, rfl, hG _ hans, hpre.dj, hpre.sim, .bool _, .refl _ _⟩

variable {f : FuncId} {n : Nat} {k : List It} {Q : V → St → Prop} {T : Ts} {σ : St}
theorem SRun.eqsR {d : Option Nat} {l : List GI} {neg : Bool} {x : Opd} (hx : (∃ ex es xs, ev Γ T x = .isl ex es xs) ∨ ∃ b es off len cap, ev Γ T x = .msl b es off len cap)
  (hk : ∀ b, nilAns neg (ev Γ T x) b → W P Γ f n Q (.ops l :: k) (putT T d (.bool b)) σ) : SRun P Γ f n (.ops (⟨d, none, .eqs neg x⟩ :: l) :: k) T σ Q :=
 SRun.op (G := fun y s => ∃ b, nilAns neg (ev Γ T x) b ∧ y = .bool b ∧ s = σ) rfl (InsOK.eqs hx fun b h => ⟨b, h, rfl, rfl⟩) (fun y s ⟨b, h, e1, e2⟩ => by subst e1 e2; exact (hk b h).sound)

theorem peel_nil {todo : List Item} (hr : RelT P n todo []) : ∀ (fr : Frame) (a : Act) (w : World) (cs : List Frame), Steps P (lone (fr.at a todo) cs w) (lone (fr.at a []) cs w) := by
 generalize hk : ([] : List It) = q at hr
 induction hr with
 | nil => intro fr a w cs; exact .refl P _
 | scope _ ih => intro fr a w cs; exact .head step_inScope (ih hk fr a w cs)
 | _ => cases hk
/-- The end of a body. -/
theorem SRun.fall {cf : CF} (hc : compF P f = some cf) {r r' : V} {σ' : St} (hr : resV cf.rs T σ = some r) (hcv : Conv σ r σ' r') (hQ : Q r' σ') : SRun P Γ f n [] T σ Q := by
 intro todo hrel τ w a cs hd hs hp
 have hst := peel_nil hrel (bas f) a w cs
 obtain ⟨fn, b, hfn, _, _, _, _, hrs, hok, _, _⟩ := compF_inv hc
 rw [hrs] at hr
 obtain ⟨v, hv, hrep⟩ := results_ok hp hok hr
 have hdj : disj σ' τ := by
  intro m
  cases hm : σ' m with
  | none => exact .inl rfl
  | some c => exact .inr (hp.dj.other (hcv.1 m c hm))
 have hle : ∀ b cs, cup σ' τ b = some cs → cup σ τ b = some cs := by
  intro b cs hb
  unfold cup at *
  cases hm : σ' b with
  | none =>
   rw [hm] at hb
   have := hp.dj.symm_none hb
   rw [this]; exact hb
  | some c => rw [hm] at hb; rw [hcv.1 b c hm]; exact hb
 refine ⟨r', v, w, { (bas f).at a [] with mode := .returning }, σ', hst.trans (.one step_end), rfl, ⟨rfl, hd, rfl, fn, hfn, hv⟩, hQ, hdj, hp.sim.less hle, hcv.2.rep hp.sim hp.dj hcv.1 hrep, (Keep.refl w _).less ?_⟩
 intro m hm
 unfold own at *
 obtain ⟨c, hc⟩ := Option.isSome_iff_exists.1 hm
 rw [hle m c hc]; rfl
theorem W_end : W P Γ f n Q [] T σ = SRun P Γ f n [] T σ Q := by rw [W]
theorem W_fallR {cf : CF} (hc : compF P f = some cf) {r : V} (hr : resV cf.rs T σ = some r) (hQ : Q r σ) : W P Γ f n Q [] T σ := by
 rw [W_end]; exact SRun.fall hc hr (Conv.refl _ _) hQ

/-- What is owned may be given up ahead of a call. -/
theorem ACalls.pre {args args' : List V} {σ' : St} (hle : ∀ b cs, σ' b = some cs → σ b = some cs) (hl : args.length = args'.length) (hfz : ∀ (i : Nat) (x y : V), args[i]? = some x → args'[i]? = some y → Frz σ σ' x y) (h : ACalls P Γ f args' σ' Q) : ACalls P Γ f args σ Q := by
 refine ⟨h.1, fun τ w cargs h1 h2 h3 h4 => ?_⟩
 have hdj : disj σ' τ := by
  intro m
  cases hm : σ' m with
  | none => exact .inl rfl
  | some c => exact .inr (h1.other (hle m c hm))
 have hle2 : ∀ b cs, cup σ' τ b = some cs → cup σ τ b = some cs := by
  intro b cs hb
  unfold cup at *
  cases hm : σ' b with
  | none =>
   rw [hm] at hb
   have := h1.symm_none hb
   rw [this]; exact hb
  | some c => rw [hm] at hb; rw [hle b c hm]; exact hb
 have hown : ∀ b, own (cup σ' τ) b → own (cup σ τ) b := by
  intro m hm
  unfold own at *
  obtain ⟨c, hc⟩ := Option.isSome_iff_exists.1 hm
  rw [hle2 m c hc]; rfl
 refine (h.2 τ w cargs hdj (h2.less hle2) (h3.keep ((Keep.refl w _).less hown)) ⟨by rw [← hl]; exact h4.1, fun i y hy => ?_⟩).mono ?_
 ·have hi : i < args.length := by rw [hl]; exact (List.getElem?_eq_some_iff.1 hy).1
  have hx : args[i]? = some args[i] := by simp [hi]
  exact (hfz i _ y hx hy).rep h2 h1 hle (h4.2 i _ hx)
 ·rintro e w' ⟨r, v, s, rfl, hQ, p1, p2, p3, p4⟩
  refine ⟨r, v, s, rfl, hQ, p1, p2, p3, p4.size, fun b hb ho => p4.same b hb fun h => ho (hown b h), p4.shape, fun b hb => (p4.own b hb).imp (hown b) id, p4.io⟩

/-! More of regions that draw -/
theorem DS.wrQ {σr : St} {K : Ts → St → Prop} {d : Option Nat} {r' : DT} {i : I} {G : V → St → Prop} (hW : WrF P Γ σ T ⟨d, none, i⟩ G) (hr : rdOK r' = true) (hk : ∀ r s, G r s → disj s σr → DSW P Γ σr r' (putT T d r) s K) : DS P Γ σr (.wr ⟨d, none, i⟩ r' .no) T σ K :=
 ⟨⟨G, .inl hW, fun r s hG hd => DS.of hr (hk r s hG hd)⟩, trivial⟩
theorem DS.wr2 {σr : St} {K : Ts → St → Prop} {d : Option Nat} {r' alt : DT} {i : I} {G : V → St → Prop} (hW : WrF P Γ σ T ⟨d, none, i⟩ G) (hr : rdOK r' = true) (hk : ∀ r s, G r s → disj s σr → DSW P Γ σr r' (putT T d r) s K) (ha : DS P Γ σr alt T σ K) : DS P Γ σr (.wr ⟨d, none, i⟩ r' alt) T σ K :=
 ⟨⟨G, .inl hW, fun r s hG hd => DS.of hr (hk r s hG hd)⟩, ha⟩
theorem DS.no {σr : St} {K : Ts → St → Prop} : DS P Γ σr .no T σ K := trivial
theorem WrF.alloc {d : Option Nat} {z : List V} : WrF P Γ σ T ⟨d, none, .alloc z⟩ fun x s => ∃ b, σ b = none ∧ x = .ptr b 0 ∧ s = upd σ b z :=
 WrF.of fun T' hT => InsOK.alloc fun b hb => ⟨b, hb, rfl, rfl⟩
theorem WrF.mksl {d : Option Nat} {es by_ : Nat} {z : List V} {lo c : Opd} {k1 k2 : IntKind} {n' m : Nat} (hl : ev Γ T lo = .int k1 n') (hcp : ev Γ T c = .int k2 m) (hz0 : z.length = es) (hnm : n' ≤ m) (hfit : by_ * m ≤ 281474976710656) (h63 : m ≤ 9223372036854775807) :
  WrF P Γ σ T ⟨d, none, .mksl es by_ z lo c⟩ fun x s => ∃ b, σ b = none ∧ x = .msl b es 0 n' m ∧ s = upd σ b (List.replicate m z).flatten :=
 WrF.of fun T' hT => InsOK.mksl (by rw [hT lo (by simp [I.opds])]; exact hl) (by rw [hT c (by simp [I.opds])]; exact hcp) hz0 hnm hfit h63 fun b hb => ⟨b, hb, rfl, rfl⟩
theorem cup_del_one (σ : St) (b : Nat) (c : List V) : cup (del σ b) (upd emp b c) = upd σ b c := by
 funext n; by_cases h : n = b
 ·subst h; simp [cup, del, upd]
 ·simp only [cup, del, upd, emp, if_neg h]; cases σ n <;> rfl
theorem disj_del_one (σ : St) (b : Nat) (c : List V) : disj (del σ b) (upd emp b c) := by
 intro n; by_cases h : n = b
 ·exact .inl (by simp [del, h])
 ·exact .inr (by simp [upd, emp, h])
/-- Where one block alone is read. -/
theorem DRun.mixR {b : Nat} {c : List V} {t : DT} {segs : List DT} (hb : σ b = some c) (hr : rdOK t = true) (h : DSW P Γ (upd emp b c) t T (del σ b) fun T s => WD P Γ f n Q k segs T (cup s (upd emp b c))) : DRun P Γ f n Q (t :: segs) k T σ :=
 ⟨del σ b, upd emp b c, disj_del_one σ b c, by rw [cup_del_one, upd_self σ hb], DS.mono (fun T s hw => hw.sound) (DS.of hr h)⟩
theorem cup_upd_one {s : St} {b : Nat} {c : List V} {b2 : Nat} {x : List V} (hb : σ b = some c) (hd : disj (upd (del σ b) b2 x) (upd emp b c)) : cup (upd (del σ b) b2 x) (upd emp b c) = upd σ b2 x ∧ b2 ≠ b := by
 have hne : b2 ≠ b := by
  intro e; subst e
  have := hd b2
  rw [upd_same, upd_same] at this
  rcases this with h | h <;> cases h
 refine ⟨?_, hne⟩
 rw [cup_upd, cup_del_one, upd_self σ hb]
theorem own_cupR {s : St} {es len : Nat} {cells : List V} {r : V} {b : Nat} {c : List V} (h : OwnS (del σ b) es cells len r s) (hb : σ b = some c) (hd : disj s (upd emp b c)) : OwnS σ es cells len r (cup s (upd emp b c)) := by
 rcases h with ⟨h1, h2, rfl, h3⟩ | ⟨b2, cap, h2, h3, rfl, h4⟩
 ·refine .inl ⟨h1, h2, ?_, h3⟩
  rw [cup_del_one, upd_self σ hb]
 ·obtain ⟨e, hne⟩ := cup_upd_one (s := σ) hb hd
  exact .inr ⟨b2, cap, by rw [← h2, del_ne σ hne], h3, e, h4⟩
theorem DRun.boxR {d : Option Nat} {m : Nat} {x : Opd} {segs : List DT} (h1 : ∀ c ∈ (ev Γ T x).cells, c.one = true) (hk : ∀ b, σ b = none → WD P Γ f n Q k segs (putT T d (.ptr b 0)) (upd σ b (ev Γ T x).cells)) : DRun P Γ f n Q (.wr ⟨d, none, .box m x⟩ .nil .no :: segs) k T σ :=
 DRun.wr1 (G := fun y s => ∃ b, σ b = none ∧ y = .ptr b 0 ∧ s = upd σ b (ev Γ T x).cells) (WrF.of fun T' hT => by
  have he := hT x (by simp [I.opds])
  exact InsOK.box (by rw [he]; exact h1) fun b hb => ⟨b, hb, rfl, by rw [he]⟩) fun y s ⟨b, hb, e1, e2⟩ => by subst e1 e2; exact (hk b hb).sound
theorem own_ext {σ0 s : St} {es len : Nat} {cells : List V} {r : V} {b : Nat} {z : List V} (h : OwnS σ0 es cells len r s) (hb : s b = none) : OwnS (upd σ0 b z) es cells len r (upd s b z) := by
 rcases h with ⟨h1, h2, rfl, h3⟩ | ⟨b2, cap, h2, h3, rfl, h4⟩
 ·exact .inl ⟨h1, h2, rfl, h3⟩
 ·have hn := upd_none.1 hb
  exact .inr ⟨b2, cap, upd_none.2 ⟨fun e => hn.1 e.symm, h2⟩, h3, upd_comm _ (fun e => hn.1 e.symm) _ _, h4⟩
/-- A row of cells that is given up, cell by cell. -/
theorem Frz.rowG {σ' : St} {b len cap : Nat} {cs xs : List V} (hb : σ b = some cs) (hb' : σ' b = none) (hle : len ≤ cs.length) (hl : xs.length = len) (h1 : ∀ x ∈ xs, x.one = true) (hx : ∀ (i : Nat) (y x : V), cs[i]? = some y → xs[i]? = some x → Frz σ σ' y x) : Frz σ σ' (.msl b 1 0 len cap) (.isl false 1 xs) := by
 have hfl := flat_one h1
 have hc1 : ∀ x ∈ xs, x.cells.length = 1 := fun x hx => by
  have := h1 x hx
  cases x <;> first | rfl | (simp [V.one] at this)
 refine .msl b 1 0 len cap cs xs hb hb' (by omega) hl hc1 (by rw [hfl]; omega) (fun i x hx => h1 x (List.mem_of_getElem? (hfl ▸ hx))) (fun i x y hy hx' => ?_)
 rw [hfl] at hx'
 rw [Nat.zero_add] at hy
 exact hx i y x hy hx'
theorem own_frzG {σ0 σ2 σ3 : St} {len : Nat} {cells xs : List V} {r : V} (h : OwnS σ0 1 cells len r σ) (hl : xs.length = len) (h1 : ∀ c ∈ xs, c.one = true) (h2 : ∀ b, σ0 b = none → σ2 b = σ b) (h3 : ∀ b, σ0 b = none → σ3 b = none)
  (hx : ∀ (i : Nat) (y x : V), cells[i]? = some y → xs[i]? = some x → Frz σ2 σ3 y x) : Frz σ2 σ3 r (.isl false 1 xs) := by
 rcases h with ⟨rfl, rfl, rfl, es', rfl⟩ | ⟨b2, cap, hb, rfl, rfl, h4⟩
 ·have : xs = [] := List.eq_nil_of_length_eq_zero hl
  subst this
  exact .isl0 _ _ _ _ (fun h => by cases h)
 ·exact Frz.rowG (by rw [h2 b2 hb, upd_same]) (h3 b2 hb) (by omega) hl h1 hx
/-- Where nothing is owned by what is called. -/
theorem DRun.mixE {t : DT} {segs : List DT} (hr : rdOK t = true) (h : DSW P Γ σ t T emp fun T s => s = emp ∧ WD P Γ f n Q k segs T σ) : DRun P Γ f n Q (t :: segs) k T σ :=
 ⟨emp, σ, disj_emp_left σ, rfl, DS.mono (fun T s ⟨e, hw⟩ => by subst e; exact hw.sound) (DS.of hr h)⟩
end
end Go.Proofs.Ytdenfjbhkdhlkaa.Lg
