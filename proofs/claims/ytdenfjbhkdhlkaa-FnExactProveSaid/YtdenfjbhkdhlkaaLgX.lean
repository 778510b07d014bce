/- The own logic: what simp makes of each instruction, and the rules where it stands still. It holds for every program. -/
import Derived.Test.YtdenfjbhkdhlkaaLgW
set_option linter.unusedSimpArgs false
set_option linter.unusedVariables false
namespace Go.Proofs.Ytdenfjbhkdhlkaa.Lg
open Go

section
variable {P : Program} {Γ : St} {f : FuncId} {n : Nat} {Q : V → St → Prop} {g : GI} {l : List GI} {k : List It} {T : Ts} {σ : St}

theorem stepW_pure {i' : I} (h : ∀ K, insW emp i' [] σ K = match pureI σ (ev emp []) i' with | some (p, x) => some (p ∧ K x σ) | none => none) :
  stepW P Γ f n Q i' g l k T σ = pureW P Γ f n Q (pureI σ (ev emp []) i') g l k T σ := by
 unfold stepW pureW
 rw [h]
 cases pureI σ (ev emp []) i' with
 | none => rfl
 | some q => rfl

theorem stepW_mv (x : V) : stepW P Γ f n Q (.mv (.c x)) g l k T σ = W P Γ f n Q (.ops l :: k) (putT T g.d x) σ := by
 rw [stepW_pure (fun K => rfl)]; simp [pureW, pureI, ev]
theorem stepW_pick (t : Bool) (x y : V) : stepW P Γ f n Q (.pick (.c (.bool t)) (.c x) (.c y)) g l k T σ = W P Γ f n Q (.ops l :: k) (putT T g.d (bif t then x else y)) σ := by
 rw [stepW_pure (fun K => rfl)]; simp [pureW, pureI, ev]
theorem stepW_build (z : List V) (ps : List (Nat × Nat × Opd)) : stepW P Γ f n Q (.build z ps) g l k T σ = (fillOK (ev emp []) z.length ps ∧ (∀ c ∈ z, c.one = true) ∧ W P Γ f n Q (.ops l :: k) (putT T g.d (.agg (fillV (ev emp []) z ps))) σ) := by
 rw [stepW_pure (fun K => rfl)]; simp [pureW, pureI, and_assoc]
theorem stepW_bsl (es m : Nat) (zv : V) (ps : List (Nat × Opd)) : stepW P Γ f n Q (.bsl es m zv ps) g l k T σ = (rowOK (ev emp []) es m ps ∧ zv.cells.length = es ∧ (∀ c ∈ zv.cells, c.one = true) ∧ W P Γ f n Q (.ops l :: k) (putT T g.d (.isl true es (rowV (ev emp []) (List.replicate m zv) ps))) σ) := by
 rw [stepW_pure (fun K => rfl)]; simp [pureW, pureI, and_assoc]
theorem stepW_nilck_ptr (b off : Nat) : stepW P Γ f n Q (.nilck (.c (.ptr b off))) g l k T σ = W P Γ f n Q (.ops l :: k) (putT T g.d (.ptr b off)) σ := by
 rw [stepW_pure (fun K => rfl)]; simp [pureW, pureI, ev]
theorem stepW_nilck_iptr (cs : List V) : stepW P Γ f n Q (.nilck (.c (.iptr cs))) g l k T σ = W P Γ f n Q (.ops l :: k) (putT T g.d (.iptr cs)) σ := by
 rw [stepW_pure (fun K => rfl)]; simp [pureW, pureI, ev]
theorem stepW_nilck_fn (g' : FuncId) (cs : List V) : stepW P Γ f n Q (.nilck (.c (.fn g' cs))) g l k T σ = W P Γ f n Q (.ops l :: k) (putT T g.d (.fn g' cs)) σ := by
 rw [stepW_pure (fun K => rfl)]; simp [pureW, pureI, ev]
theorem stepW_bin (op : BinOp) (x y : Opd) : stepW P Γ f n Q (.bin op x y) g l k T σ = pureW P Γ f n Q (binV op (ev emp [] x) (ev emp [] y)) g l k T σ := by
 rw [stepW_pure (fun K => rfl)]; rfl
theorem stepW_eqb (neg : Bool) (x y : Bool) : stepW P Γ f n Q (.eqb neg (.c (.bool x)) (.c (.bool y))) g l k T σ = W P Γ f n Q (.ops l :: k) (putT T g.d (.bool (bif neg then !(x == y) else x == y))) σ := by
 rw [stepW_pure (fun K => rfl)]; simp [pureW, pureI, ev]
theorem stepW_eqp (neg : Bool) (x y : Opd) : stepW P Γ f n Q (.eqp neg x y) g l k T σ = pureW P Γ f n Q (pureI σ (ev emp []) (.eqp neg x y)) g l k T σ := stepW_pure (fun K => rfl)
theorem stepW_eqa (neg : Bool) (ks : List Nat) (x y : Opd) : stepW P Γ f n Q (.eqa neg ks x y) g l k T σ = pureW P Γ f n Q (pureI σ (ev emp []) (.eqa neg ks x y)) g l k T σ := stepW_pure (fun K => rfl)
theorem stepW_un (op : UnOp) (x : Opd) : stepW P Γ f n Q (.un op x) g l k T σ = pureW P Γ f n Q (pureI σ (ev emp []) (.un op x)) g l k T σ := stepW_pure (fun K => rfl)
theorem stepW_i2i (kk k2 : IntKind) (m : Int) : stepW P Γ f n Q (.i2i kk (.c (.int k2 m))) g l k T σ = W P Γ f n Q (.ops l :: k) (putT T g.d (.int kk (kk.wrap m))) σ := by
 rw [stepW_pure (fun K => rfl)]; simp [pureW, pureI, ev]
theorem stepW_mkfn (g' : FuncId) (cs : List Opd) : stepW P Γ f n Q (.mkfn g' cs) g l k T σ = W P Γ f n Q (.ops l :: k) (putT T g.d (.fn g' (cs.map (ev emp [])))) σ := by
 rw [stepW_pure (fun K => rfl)]; simp [pureW, pureI]
theorem stepW_sl (es : Nat) (x : Opd) (lo hi m3 : Option Opd) : stepW P Γ f n Q (.sl es x lo hi m3) g l k T σ = pureW P Γ f n Q (pureI σ (ev emp []) (.sl es x lo hi m3)) g l k T σ := stepW_pure (fun K => rfl)
theorem stepW_sls (x : Opd) (lo hi : Option Opd) : stepW P Γ f n Q (.sls x lo hi) g l k T σ = pureW P Γ f n Q (pureI σ (ev emp []) (.sls x lo hi)) g l k T σ := stepW_pure (fun K => rfl)
theorem stepW_faddr_ptr (o b off : Nat) : stepW P Γ f n Q (.faddr o (.c (.ptr b off))) g l k T σ = W P Γ f n Q (.ops l :: k) (putT T g.d (.ptr b (off + o))) σ := by
 rw [stepW_pure (fun K => rfl)]; simp [pureW, pureI, ev]
theorem stepW_faddr_iptr (o : Nat) (cs : List V) : stepW P Γ f n Q (.faddr o (.c (.iptr cs))) g l k T σ = W P Γ f n Q (.ops l :: k) (putT T g.d (.iptr (cs.drop o))) σ := by
 rw [stepW_pure (fun K => rfl)]; simp [pureW, pureI, ev]
theorem stepW_field (ag : Bool) (off m : Nat) (x : Opd) : stepW P Γ f n Q (.field ag off m x) g l k T σ = pureW P Γ f n Q (pureI σ (ev emp []) (.field ag off m x)) g l k T σ := stepW_pure (fun K => rfl)
theorem stepW_iaddrA (es m : Nat) (x j : Opd) : stepW P Γ f n Q (.iaddrA es m x j) g l k T σ = pureW P Γ f n Q (pureI σ (ev emp []) (.iaddrA es m x j)) g l k T σ := stepW_pure (fun K => rfl)
theorem stepW_idxA (ag : Bool) (es m : Nat) (x j : Opd) : stepW P Γ f n Q (.idxA ag es m x j) g l k T σ = pureW P Γ f n Q (pureI σ (ev emp []) (.idxA ag es m x j)) g l k T σ := stepW_pure (fun K => rfl)
theorem stepW_ext_ex (vs : List V) (m : Nat) : stepW P Γ f n Q (.ext (.c (.tup vs)) m) g l k T σ = (m < vs.length ∧ W P Γ f n Q (.ops l :: k) (putT T g.d (vs.getD m .undef)) σ) := by
 rw [stepW_pure (fun K => rfl)]; simp [pureW, pureI, ev]
theorem stepW_len_isl (ex : Bool) (es : Nat) (xs : List V) : stepW P Γ f n Q (.len (.c (.isl ex es xs))) g l k T σ = W P Γ f n Q (.ops l :: k) (putT T g.d (.int .i64 xs.length)) σ := by
 rw [stepW_pure (fun K => rfl)]; simp [pureW, pureI, ev]
theorem stepW_len_msl (b es off m cap : Nat) : stepW P Γ f n Q (.len (.c (.msl b es off m cap))) g l k T σ = W P Γ f n Q (.ops l :: k) (putT T g.d (.int .i64 m)) σ := by
 rw [stepW_pure (fun K => rfl)]; simp [pureW, pureI, ev]
theorem stepW_lens (s : List UInt8) : stepW P Γ f n Q (.lens (.c (.str s))) g l k T σ = W P Γ f n Q (.ops l :: k) (putT T g.d (.int .i64 s.length)) σ := by
 rw [stepW_pure (fun K => rfl)]; simp [pureW, pureI, ev]
theorem stepW_cap (x : Opd) : stepW P Γ f n Q (.cap x) g l k T σ = pureW P Γ f n Q (pureI σ (ev emp []) (.cap x)) g l k T σ := stepW_pure (fun K => rfl)
theorem stepW_mx_ex (k1 k2 : IntKind) (a b : Int) : stepW P Γ f n Q (.mx (.c (.int k1 a)) (.c (.int k2 b))) g l k T σ = (k1 = k2 ∧ W P Γ f n Q (.ops l :: k) (putT T g.d (.int k1 (if b > a then b else a))) σ) := by
 rw [stepW_pure (fun K => rfl)]; simp [pureW, pureI, ev]
theorem stepW_mn_ex (k1 k2 : IntKind) (a b : Int) : stepW P Γ f n Q (.mn (.c (.int k1 a)) (.c (.int k2 b))) g l k T σ = (k1 = k2 ∧ W P Γ f n Q (.ops l :: k) (putT T g.d (.int k1 (if b < a then b else a))) σ) := by
 rw [stepW_pure (fun K => rfl)]; simp [pureW, pureI, ev]

theorem stepW_load1_ex (m b off : Nat) : stepW P Γ f n Q (.load false m (.c (.ptr b off))) g l k T σ = ∃ cs, σ b = some cs ∧ m = 1 ∧ ∃ x, cs[off]? = some x ∧ W P Γ f n Q (.ops l :: k) (putT T g.d x) σ := by
 simp [stepW, insW, ev, rdW]
theorem stepW_loadA_ex (m b off : Nat) : stepW P Γ f n Q (.load true m (.c (.ptr b off))) g l k T σ = ∃ cs, σ b = some cs ∧ off + m ≤ cs.length ∧ W P Γ f n Q (.ops l :: k) (putT T g.d (.agg ((cs.drop off).take m))) σ := by
 simp [stepW, insW, ev, rdW]
theorem stepW_loadi1_ex (m : Nat) (cs : List V) : stepW P Γ f n Q (.load false m (.c (.iptr cs))) g l k T σ = (m = 1 ∧ ∃ x, cs[0]? = some x ∧ W P Γ f n Q (.ops l :: k) (putT T g.d x) σ) := by
 simp [stepW, insW, ev, rdW]
theorem stepW_loadiA_ex (m : Nat) (cs : List V) : stepW P Γ f n Q (.load true m (.c (.iptr cs))) g l k T σ = (m ≤ cs.length ∧ W P Γ f n Q (.ops l :: k) (putT T g.d (.agg (cs.take m))) σ) := by
 simp [stepW, insW, ev, rdW]
theorem stepW_iaddr_isl_ex (es es' : Nat) (ex : Bool) (xs : List V) (kk : IntKind) (m : Int) : stepW P Γ f n Q (.iaddr es (.c (.isl ex es' xs)) (.c (.int kk m))) g l k T σ = (0 ≤ m ∧ ∃ y, xs[m.toNat]? = some y ∧ es' = es ∧ W P Γ f n Q (.ops l :: k) (putT T g.d (.iptr y.cells)) σ) := by
 simp [stepW, insW, ev]
theorem stepW_iaddr_msl_ex (es es' b off len cap : Nat) (kk : IntKind) (m : Int) : stepW P Γ f n Q (.iaddr es (.c (.msl b es' off len cap)) (.c (.int kk m))) g l k T σ = (0 ≤ m ∧ m < len ∧ es' = es ∧ W P Γ f n Q (.ops l :: k) (putT T g.d (.ptr b (off + m.toNat * es))) σ) := by
 simp [stepW, insW, ev]
theorem stepW_idxs_ex (s : List UInt8) (kk : IntKind) (m : Int) : stepW P Γ f n Q (.idxs (.c (.str s)) (.c (.int kk m))) g l k T σ = (0 ≤ m ∧ ∃ c, s[m.toNat]? = some c ∧ W P Γ f n Q (.ops l :: k) (putT T g.d (.int .u8 (c.toNat : Int))) σ) := by
 simp [stepW, insW, ev]
theorem stepW_store_ex (m b off : Nat) (x : V) : stepW P Γ f n Q (.store m (.c (.ptr b off)) (.c x)) g l k T σ = ∃ cs, σ b = some cs ∧ x.cells.length = m ∧ (∀ c ∈ x.cells, c.one = true) ∧ off + m ≤ cs.length ∧ W P Γ f n Q (.ops l :: k) (putT T g.d .undef) (upd σ b (sets cs off x.cells)) := by
 simp [stepW, insW, ev]

theorem stepW_load1 (b off : Nat) : stepW P Γ f n Q (.load false 1 (.c (.ptr b off))) g l k T σ = (match σ b with | some cs => (match cs[off]? with | some x => W P Γ f n Q (.ops l :: k) (putT T g.d x) σ | none => False) | none => False) := by
 rw [stepW_load1_ex]
 cases σ b with
 | none => simp
 | some cs => cases h : cs[off]? <;> simp [h]
theorem stepW_loadA (m b off : Nat) : stepW P Γ f n Q (.load true m (.c (.ptr b off))) g l k T σ = (match σ b with | some cs => if off + m ≤ cs.length then W P Γ f n Q (.ops l :: k) (putT T g.d (.agg ((cs.drop off).take m))) σ else False | none => False) := by
 rw [stepW_loadA_ex]
 cases σ b <;> simp
theorem stepW_loadi1 (cs : List V) : stepW P Γ f n Q (.load false 1 (.c (.iptr cs))) g l k T σ = (match cs[0]? with | some x => W P Γ f n Q (.ops l :: k) (putT T g.d x) σ | none => False) := by
 rw [stepW_loadi1_ex]
 cases h : cs[0]? <;> simp [h]
theorem stepW_loadiA (m : Nat) (cs : List V) : stepW P Γ f n Q (.load true m (.c (.iptr cs))) g l k T σ = if m ≤ cs.length then W P Γ f n Q (.ops l :: k) (putT T g.d (.agg (cs.take m))) σ else False := by
 rw [stepW_loadiA_ex]; simp
theorem stepW_iaddr_isl (es es' : Nat) (ex : Bool) (xs : List V) (kk : IntKind) (m : Int) : stepW P Γ f n Q (.iaddr es (.c (.isl ex es' xs)) (.c (.int kk m))) g l k T σ = if 0 ≤ m then (match xs[m.toNat]? with | some y => if es' = es then W P Γ f n Q (.ops l :: k) (putT T g.d (.iptr y.cells)) σ else False | none => False) else False := by
 rw [stepW_iaddr_isl_ex]
 by_cases h : 0 ≤ m
 ·cases h2 : xs[m.toNat]? <;> simp [h, h2]
 ·simp [h]
theorem stepW_iaddr_msl (es es' b off len cap : Nat) (kk : IntKind) (m : Int) : stepW P Γ f n Q (.iaddr es (.c (.msl b es' off len cap)) (.c (.int kk m))) g l k T σ = if 0 ≤ m then if m < len then if es' = es then W P Γ f n Q (.ops l :: k) (putT T g.d (.ptr b (off + m.toNat * es))) σ else False else False else False := by
 rw [stepW_iaddr_msl_ex]; simp
theorem stepW_idxs (s : List UInt8) (kk : IntKind) (m : Int) : stepW P Γ f n Q (.idxs (.c (.str s)) (.c (.int kk m))) g l k T σ = if 0 ≤ m then (match s[m.toNat]? with | some c => W P Γ f n Q (.ops l :: k) (putT T g.d (.int .u8 (c.toNat : Int))) σ | none => False) else False := by
 rw [stepW_idxs_ex]
 by_cases h : 0 ≤ m
 ·cases h2 : s[m.toNat]? <;> simp [h, h2]
 ·simp [h]
theorem stepW_store (m b off : Nat) (x : V) : stepW P Γ f n Q (.store m (.c (.ptr b off)) (.c x)) g l k T σ = (match σ b with | some cs => if x.cells.length = m then if (∀ c ∈ x.cells, c.one = true) then if off + m ≤ cs.length then W P Γ f n Q (.ops l :: k) (putT T g.d .undef) (upd σ b (sets cs off x.cells)) else False else False else False | none => False) := by
 rw [stepW_store_ex]
 cases σ b <;> simp
theorem stepW_ext (vs : List V) (m : Nat) : stepW P Γ f n Q (.ext (.c (.tup vs)) m) g l k T σ = if m < vs.length then W P Γ f n Q (.ops l :: k) (putT T g.d (vs.getD m .undef)) σ else False := by
 rw [stepW_ext_ex]; simp
theorem stepW_mx (k1 : IntKind) (a b : Int) : stepW P Γ f n Q (.mx (.c (.int k1 a)) (.c (.int k1 b))) g l k T σ = W P Γ f n Q (.ops l :: k) (putT T g.d (.int k1 (if b > a then b else a))) σ := by
 rw [stepW_mx_ex]; simp
theorem stepW_mn (k1 : IntKind) (a b : Int) : stepW P Γ f n Q (.mn (.c (.int k1 a)) (.c (.int k1 b))) g l k T σ = W P Γ f n Q (.ops l :: k) (putT T g.d (.int k1 (if b < a then b else a))) σ := by
 rw [stepW_mn_ex]; simp

/-! Where it stands still -/
theorem stepW_call (x : Opd) (as : List Opd) : stepW P Γ f n Q (.call x as) g l k T σ = SRun P Γ f n (.ops (g :: l) :: k) T σ Q := by simp [stepW, insW, pureI]
theorem stepW_alloc (z : List V) : stepW P Γ f n Q (.alloc z) g l k T σ = SRun P Γ f n (.ops (g :: l) :: k) T σ Q := by simp [stepW, insW, pureI]
theorem stepW_box (m : Nat) (x : Opd) : stepW P Γ f n Q (.box m x) g l k T σ = SRun P Γ f n (.ops (g :: l) :: k) T σ Q := by simp [stepW, insW, pureI]
theorem stepW_app (es by_ : Nat) (x y : Opd) : stepW P Γ f n Q (.app es by_ x y) g l k T σ = SRun P Γ f n (.ops (g :: l) :: k) T σ Q := by simp [stepW, insW, pureI]
theorem stepW_appz (es by_ : Nat) (z : List V) (x y : Opd) : stepW P Γ f n Q (.appz es by_ z x y) g l k T σ = SRun P Γ f n (.ops (g :: l) :: k) T σ Q := by simp [stepW, insW, pureI]
theorem stepW_mksl (es by_ : Nat) (z : List V) (x y : Opd) : stepW P Γ f n Q (.mksl es by_ z x y) g l k T σ = SRun P Γ f n (.ops (g :: l) :: k) T σ Q := by simp [stepW, insW, pureI]
theorem stepW_copy (es : Nat) (x y : Opd) : stepW P Γ f n Q (.copy es x y) g l k T σ = SRun P Γ f n (.ops (g :: l) :: k) T σ Q := by simp [stepW, insW, pureI]
theorem stepW_clear (es : Nat) (z : List V) (x : Opd) : stepW P Γ f n Q (.clear es z x) g l k T σ = SRun P Γ f n (.ops (g :: l) :: k) T σ Q := by simp [stepW, insW, pureI]
theorem stepW_eqs (neg : Bool) (x : Opd) : stepW P Γ f n Q (.eqs neg x) g l k T σ = SRun P Γ f n (.ops (g :: l) :: k) T σ Q := by simp [stepW, insW, pureI]

/-- A contract that tells value and memory. -/
def Ret (P : Program) (Γ : St) (f : FuncId) (args : List V) (σ : St) (r : V) (σ' : St) : Prop := ACalls P Γ f args σ fun x s => x = r ∧ s = σ'

theorem SRun.callR {d : Option Nat} {gd : Option (Nat × Bool)} {x : Opd} {as : List Opd} {g : FuncId} {vs : List V} {r : V} {σ' : St} (h : Ret P Γ g vs σ r σ') (hv : ∃ caps, ev Γ T x = .fn g caps ∧ as.map (ev Γ T) ++ caps = vs) (hg : guardV Γ T ⟨d, gd, .call x as⟩ = some true) (hk : W P Γ f n Q (.ops l :: k) (putT T d r) σ') :
  SRun P Γ f n (.ops (⟨d, gd, .call x as⟩ :: l) :: k) T σ Q := by
 obtain ⟨caps, h1, h2⟩ := hv
 exact SRun.op (G := fun x s => x = r ∧ s = σ') hg (InsOK.call h1 (by rw [h2]; exact h)) (fun y s ⟨e1, e2⟩ => by subst e1 e2; exact hk.sound)
theorem SRun.callQ {d : Option Nat} {gd : Option (Nat × Bool)} {x : Opd} {as : List Opd} {g : FuncId} {vs : List V} {G : V → St → Prop} (h : ACalls P Γ g vs σ G) (hv : ∃ caps, ev Γ T x = .fn g caps ∧ as.map (ev Γ T) ++ caps = vs) (hg : guardV Γ T ⟨d, gd, .call x as⟩ = some true) (hk : ∀ r s, G r s → W P Γ f n Q (.ops l :: k) (putT T d r) s) :
  SRun P Γ f n (.ops (⟨d, gd, .call x as⟩ :: l) :: k) T σ Q := by
 obtain ⟨caps, h1, h2⟩ := hv
 exact SRun.op hg (InsOK.call h1 (by rw [h2]; exact h)) (fun y s hG => (hk y s hG).sound)
theorem SRun.allocR {d : Option Nat} {z : List V} (hk : ∀ b, σ b = none → W P Γ f n Q (.ops l :: k) (putT T d (.ptr b 0)) (upd σ b z)) : SRun P Γ f n (.ops (⟨d, none, .alloc z⟩ :: l) :: k) T σ Q :=
 SRun.op (G := fun x s => ∃ b, σ b = none ∧ x = .ptr b 0 ∧ s = upd σ b z) rfl (InsOK.alloc fun b hb => ⟨b, hb, rfl, rfl⟩) (fun x s ⟨b, hb, e1, e2⟩ => by subst e1 e2; exact (hk b hb).sound)
theorem SRun.boxR {d : Option Nat} {m : Nat} {x : Opd} (h1 : ∀ c ∈ (ev Γ T x).cells, c.one = true) (hk : ∀ b, σ b = none → W P Γ f n Q (.ops l :: k) (putT T d (.ptr b 0)) (upd σ b (ev Γ T x).cells)) : SRun P Γ f n (.ops (⟨d, none, .box m x⟩ :: l) :: k) T σ Q :=
 SRun.op (G := fun y s => ∃ b, σ b = none ∧ y = .ptr b 0 ∧ s = upd σ b (ev Γ T x).cells) rfl (InsOK.box h1 fun b hb => ⟨b, hb, rfl, rfl⟩) (fun y s ⟨b, hb, e1, e2⟩ => by subst e1 e2; exact (hk b hb).sound)

/-- A function whose contract is proved over its code. -/
theorem ret_of {cf : CF} (hc : compF P f = some cf) {args : List V} (hl : args.length = cf.np) {r : V} {σ' : St} (h : W P Γ f cf.n (fun x s => x = r ∧ s = σ') [.code cf.body] (argsT 0 args) σ) : Ret P Γ f args σ r σ' := acalls_of hc hl h.sound
theorem acalls_W {cf : CF} (hc : compF P f = some cf) {args : List V} (hl : args.length = cf.np) (h : W P Γ f cf.n Q [.code cf.body] (argsT 0 args) σ) : ACalls P Γ f args σ Q := acalls_of hc hl h.sound
/-- A return, where nothing of memory is given up. -/
theorem SRun.retR {cf : CF} (hc : compF P f = some cf) {r : V} (hr : resV cf.rs T σ = some r) (hQ : Q r σ) : SRun P Γ f n (.code .ret :: k) T σ Q := SRun.ret hc hr (Conv.refl _ _) hQ

end
end Go.Proofs.Ytdenfjbhkdhlkaa.Lg
