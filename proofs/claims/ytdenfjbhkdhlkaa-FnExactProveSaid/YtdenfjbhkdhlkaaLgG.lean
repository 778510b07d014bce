/- The own logic, part G: contracts, runs, and the rules of the code's shape. It holds for every program. -/
import Derived.Test.YtdenfjbhkdhlkaaLgF
set_option linter.unusedSimpArgs false
set_option linter.unusedVariables false
namespace Go.Proofs.Ytdenfjbhkdhlkaa.Lg
open Go

/-- A function with a body of Go. -/
def callable (P : Program) (f : FuncId) : Bool := match P.funcs[f]? with | some fn => fn.name != "runtime.NumGoroutine" && fn.body.isSome | none => false
theorem run_callFunc {P : Program} {f : FuncId} (h : callable P f = true) (args : Array Value) (w : World) : (callFunc f args).run P w = .ok (.enter f args) w := by
 unfold callable at h
 split at h
 ·rename_i fn hfn
  simp only [Bool.and_eq_true, bne_iff_ne, ne_eq] at h
  obtain ⟨b, hb⟩ := Option.isSome_iff_exists.1 h.2
  simp [callFunc, hfn, h.1, hb]
 ·simp at h

section
variable (P : Program) (Γ : St)

def RepL (w : World) (O : Nat → Prop) (xs : List V) (vs : Array Value) : Prop := xs.length = vs.size ∧ ∀ (i : Nat) (x : V), xs[i]? = some x → Rep w O x (vs.getD i undef)

/-- What stands behind a run: the value, what is owned, and that nothing else has turned. -/
def Post (σ τ : St) (w : World) (r : V) (v : Value) (σ' : St) (w' : World) : Prop :=
 disj σ' τ ∧ Sim (cup σ' τ) w' ∧ Rep w' (own (cup σ' τ)) r v ∧ Keep w w' (own (cup σ τ)) (own (cup σ' τ))

/-- A function's contract: whatever else is owned, it returns, with a value and owned blocks of which Q holds. -/
def ACalls (f : FuncId) (args : List V) (σ : St) (Q : V → St → Prop) : Prop := callable P f = true ∧
 ∀ (τ : St) (w : World) (cargs : Array Value), disj σ τ → Sim (cup σ τ) w → Glob Γ w (own (cup σ τ)) → RepL w (own (cup σ τ)) args cargs →
  Calls P f cargs w fun e w' => ∃ r v σ', e = .returned v ∧ Q r σ' ∧ Post σ τ w r v σ' w'

theorem ACalls.mono {f : FuncId} {args : List V} {σ : St} {Q Q' : V → St → Prop} (h : ACalls P Γ f args σ Q) (hq : ∀ r s, Q r s → Q' r s) : ACalls P Γ f args σ Q' :=
 ⟨h.1, fun τ w cargs h1 h2 h3 h4 => (h.2 τ w cargs h1 h2 h3 h4).mono fun _ _ ⟨r, v, σ', he, hQ, hp⟩ => ⟨r, v, σ', he, hq _ _ hQ, hp⟩⟩

/-- One operation, in a region. -/
def OpOK (o : Oper) (T : Ts) (σ : St) (G : V → St → Prop) : Prop :=
 ∀ (τ : St) (w : World) (a : Act), Pre Γ T σ τ w a → o.wp P a w (fun a' w' => ∃ x v σ', a' = a.put o.dst v ∧ G x σ' ∧ Post σ τ w x v σ' w') (fun _ _ _ => False)

variable {P Γ}

def putT (T : Ts) (d : Option Nat) (x : V) : Ts := match d with | some t => (t, x) :: T | none => T
theorem Post.pre {T : Ts} {σ τ σ' : St} {w w' : World} {a : Act} {x : V} {v : Value} {d : Option Nat} (hp : Pre Γ T σ τ w a) (h : Post σ τ w x v σ' w') (hd : ∀ t, d = some t → t < a.tmps.size) :
  Pre Γ (putT T d x) σ' τ w' (a.put d v) where
 dj := h.1
 sim := h.2.1
 glob := hp.glob.keep h.2.2.2
 kn := by
  have hk := hp.kn.keep h.2.2.2
  cases d with
  | none => exact hk
  | some t => exact hk.put (hd t rfl) h.2.2.1

theorem Yields.op {o : Oper} {T : Ts} {σ : St} {x : V} {G : V → St → Prop} (h : ∀ (τ : St) (w : World) (a : Act), Pre Γ T σ τ w a → Yields P o a w (own (cup σ τ)) x) (hG : G x σ) : OpOK P Γ o T σ G := by
 intro τ w a hpre
 obtain ⟨v, w1, hrun, ⟨hheap, hio⟩, hrep⟩ := h τ w a hpre
 unfold Oper.wp
 rw [hrun]
 refine ⟨x, v, σ, rfl, hG, hpre.dj, ?_, hrep, ?_⟩
 ·rcases hheap with h1 | ⟨ob, h1⟩
  ·exact hpre.sim.eqHeap h1 hio
  ·exact hpre.sim.push h1 hio
 ·rcases hheap with h1 | ⟨ob, h1⟩
  ·exact .eqHeap h1 hio
  ·exact .push h1 hio

/-- The items that are still to be run. -/
inductive It where
 | code (c : C)
 | ops (l : List GI)
 | inB (id : Nat)
 | inL (c : C)

inductive RelT (P : Program) (n : Nat) : List Item → List It → Prop
 | nil : RelT P n [] []
 | code {mc : Code} {c : C} {k : List Item} {k' : List It} : compC P n mc = some c → RelT P n k k' → RelT P n (.code mc :: k) (.code c :: k')
 | ops {os : Array Oper} {idx : List Nat} {l : List GI} {k : List Item} {k' : List It} : idx.length = l.length → (∀ (j : Nat) (g : GI), l[j]? = some g → ∃ i o, idx[j]? = some i ∧ os[i]? = some o ∧ compG P n os o = some g) → RelT P n k k' →
   RelT P n (.inRegion os idx :: k) (.ops l :: k')
 | inB {id : Nat} {k : List Item} {k' : List It} : RelT P n k k' → RelT P n (.inBlock id :: k) (.inB id :: k')
 | inL {mc : Code} {c : C} {k : List Item} {k' : List It} : compC P n mc = some c → RelT P n k k' → RelT P n (.inLoop mc :: k) (.inL c :: k')
 | scope {b : Code} {k : List Item} {k' : List It} : RelT P n k k' → RelT P n (.inScope b :: k) k'

def bas (f : FuncId) : Frame := { (default : Frame) with fn := f, kind := .normal }

variable (P Γ) in
/-- The rest of a function's body runs to its end. -/
def SRun (f : FuncId) (n : Nat) (k : List It) (T : Ts) (σ : St) (Q : V → St → Prop) : Prop :=
 ∀ todo, RelT P n todo k → ∀ (τ : St) (w : World) (a : Act) (cs : List Frame), a.defers = [] → a.tmps.size = n → Pre Γ T σ τ w a →
  ∃ r v w' fr σ', Steps P (lone ((bas f).at a todo) cs w) (lone fr cs w') ∧ fr.fn = f ∧ fr.leaving P w' (.returned v) ∧ Q r σ' ∧ Post σ τ w r v σ' w'

theorem step_inScope {b : Frame} {a : Act} {k : List Item} {cs : List Frame} {w : World} {c : Code} : step P (lone (b.at a (.inScope c :: k)) cs w) = .next (lone (b.at a k) cs w) :=
 step_lone_go (by simp [stepG, stepG.exec, Frame.at])
theorem step_scope {b : Frame} {a : Act} {k : List Item} {cs : List Frame} {w : World} {c : Code} : step P (lone (b.at a (.code (.scope c) :: k)) cs w) = .next (lone (b.at a (.code c :: .inScope c :: k)) cs w) :=
 step_lone_go (by simp [stepG, stepG.exec, Frame.at])

variable {f : FuncId} {n : Nat} {k : List It} {T : Ts} {σ : St} {Q : V → St → Prop}

/-- One or more steps of the machine that turn nothing. -/
theorem SRun.steps {k' : List It} (hst : ∀ todo, RelT P n todo k → ∃ todo', RelT P n todo' k' ∧ ∀ (a : Act) (w : World) (cs : List Frame), Steps P (lone ((bas f).at a todo) cs w) (lone ((bas f).at a todo') cs w)) (h : SRun P Γ f n k' T σ Q) : SRun P Γ f n k T σ Q := by
 intro todo hr τ w a cs hd hs hp
 obtain ⟨todo', hr', hst⟩ := hst todo hr
 obtain ⟨r, v, w', fr, σ', h1, h2⟩ := h todo' hr' τ w a cs hd hs hp
 exact ⟨r, v, w', fr, σ', (hst a w cs).trans h1, h2⟩
/-- Scopes that are left. -/
theorem peel {todo : List Item} {it : It} (hr : RelT P n todo (it :: k)) : ∃ x todo', RelT P n (x :: todo') (it :: k) ∧ (∀ b, x ≠ .inScope b) ∧ ∀ (fr : Frame) (a : Act) (w : World) (cs : List Frame), Steps P (lone (fr.at a todo) cs w) (lone (fr.at a (x :: todo')) cs w) := by
 generalize hk : it :: k = q at hr
 induction hr with
 | nil => simp at hk
 | code h1 h2 _ => obtain ⟨rfl, rfl⟩ := List.cons.inj hk; exact ⟨_, _, .code h1 h2, by simp, fun fr a w cs => .refl P _⟩
 | ops h1 h2 h3 _ => obtain ⟨rfl, rfl⟩ := List.cons.inj hk; exact ⟨_, _, .ops h1 h2 h3, by simp, fun fr a w cs => .refl P _⟩
 | inB h1 _ => obtain ⟨rfl, rfl⟩ := List.cons.inj hk; exact ⟨_, _, .inB h1, by simp, fun fr a w cs => .refl P _⟩
 | inL h1 h2 _ => obtain ⟨rfl, rfl⟩ := List.cons.inj hk; exact ⟨_, _, .inL h1 h2, by simp, fun fr a w cs => .refl P _⟩
 | scope _ ih =>
  obtain ⟨x, todo', h1, h2, h3⟩ := ih hk
  exact ⟨x, todo', h1, h2, fun fr a w cs => .head step_inScope (h3 fr a w cs)⟩

/-- What a code is turned into. -/
theorem compC_inv {mc : Code} {c : C} (h : compC P n mc = some c) : match mc with
  | .skip | .label _ => c = .skip
  | .region _ ops d => (d = false ∧ ∃ l, ops.toList.mapM (compG P n ops) = some l ∧ c = .ops l) ∨ (d = true ∧ ∃ l, drawOf P n ops = some l ∧ c = .draw l) ∨ c = .bad
  | .seq a b => ∃ u v, compC P n a = some u ∧ compC P n b = some v ∧ c = .seq u v
  | .cond e a b => ∃ q u v, opd e = some q ∧ compC P n a = some u ∧ compC P n b = some v ∧ c = .ite q u v
  | .block id a => ∃ u, compC P n a = some u ∧ c = .block id u
  | .loop a => ∃ u, compC P n a = some u ∧ c = .loop u
  | .exit id => c = .exit id
  | .scope a => compC P n a = some c
  | .ret => c = .ret
  | _ => c = .bad := by
 cases mc with
 | skip => simpa [compC, eq_comm] using h
 | label l => simpa [compC, eq_comm] using h
 | region id ops d =>
  cases d with
  | false =>
   simp only [compC, Option.some.injEq] at h
   cases hm : ops.toList.mapM (compG P n ops) with
   | none => rw [hm] at h; exact .inr (.inr h.symm)
   | some l => rw [hm] at h; exact .inl ⟨rfl, l, hm, h.symm⟩
  | true =>
   simp only [compC, Option.some.injEq] at h
   cases hm : drawOf P n ops with
   | none => rw [hm] at h; exact .inr (.inr h.symm)
   | some l => rw [hm] at h; exact .inr (.inl ⟨rfl, l, hm, h.symm⟩)
 | seq a b =>
  simp only [compC, Option.bind_eq_bind, Option.bind_eq_some_iff, Option.some.injEq] at h
  obtain ⟨u, hu, v, hv, h⟩ := h
  exact ⟨u, v, hu, hv, h.symm⟩
 | cond e a b =>
  simp only [compC, Option.bind_eq_bind, Option.bind_eq_some_iff, Option.some.injEq] at h
  obtain ⟨q, hq, u, hu, v, hv, h⟩ := h
  exact ⟨q, u, v, hq, hu, hv, h.symm⟩
 | block id a =>
  simp only [compC, Option.map_eq_some_iff] at h
  obtain ⟨u, hu, h⟩ := h
  exact ⟨u, hu, h.symm⟩
 | loop a =>
  simp only [compC, Option.map_eq_some_iff] at h
  obtain ⟨u, hu, h⟩ := h
  exact ⟨u, hu, h.symm⟩
 | exit id => simpa [compC, eq_comm] using h
 | scope a => simpa [compC] using h
 | ret => simpa [compC, eq_comm] using h
 | rangeFunc f p x y => simpa [compC, eq_comm] using h
 | goto l => simpa [compC, eq_comm] using h
 | refuse w => simpa [compC, eq_comm] using h

/-- A code that the machine takes apart in one step (or more, where scopes stand around it). -/
theorem code_steps {c : C} {k' : List It} (h : ∀ mc, (∀ b, mc ≠ .scope b) → compC P n mc = some c → ∀ rest, RelT P n rest k → ∃ todo', RelT P n todo' k' ∧ ∀ (a : Act) (w : World) (cs : List Frame), Steps P (lone ((bas f).at a (.code mc :: rest)) cs w) (lone ((bas f).at a todo') cs w))
  (hs : SRun P Γ f n k' T σ Q) : SRun P Γ f n (.code c :: k) T σ Q := by
 refine SRun.steps (fun todo hr => ?_) hs
 obtain ⟨x, rest, hr', hx, hst⟩ := peel hr
 cases hr' with
 | code h1 h2 =>
  rename_i mc
  have key : ∀ (mc : Code) rest, compC P n mc = some c → RelT P n rest k → ∃ todo', RelT P n todo' k' ∧ ∀ (a : Act) (w : World) (cs : List Frame), Steps P (lone ((bas f).at a (.code mc :: rest)) cs w) (lone ((bas f).at a todo') cs w) := by
   intro mc
   induction mc with
   | scope b ih =>
    intro rest h1 h2
    obtain ⟨todo', g1, g2⟩ := ih (.inScope b :: rest) (by simpa [compC] using h1) (.scope h2)
    exact ⟨todo', g1, fun a w cs => .head step_scope (g2 a w cs)⟩
   | _ => intro rest h1 h2; exact h _ (by simp) h1 rest h2
  obtain ⟨todo', g1, g2⟩ := key mc rest h1 h2
  exact ⟨todo', g1, fun a w cs => (hst _ a w cs).trans (g2 a w cs)⟩
 | scope _ => exact absurd rfl (hx _)

theorem SRun.skip (h : SRun P Γ f n k T σ Q) : SRun P Γ f n (.code .skip :: k) T σ Q := by
 refine code_steps (fun mc hns hc rest hr => ⟨rest, hr, fun a w cs => ?_⟩) h
 have hi := compC_inv hc
 cases mc <;> simp at hi
 case skip => exact .one step_skip
 case label => exact .one step_label
 case scope b => exact absurd rfl (hns b)

theorem SRun.seq {x y : C} (h : SRun P Γ f n (.code x :: .code y :: k) T σ Q) : SRun P Γ f n (.code (.seq x y) :: k) T σ Q := by
 refine code_steps (fun mc hns hc rest hr => ?_) h
 cases mc with
 | seq p q =>
  simp only [compC, Option.bind_eq_bind, Option.bind_eq_some_iff, Option.some.injEq, C.seq.injEq] at hc
  obtain ⟨u, hu, v, hv, rfl, rfl⟩ := hc
  exact ⟨_, .code hu (.code hv hr), fun a w cs => .one step_seq⟩
 | scope b => exact absurd rfl (hns b)
 | _ => have hi := compC_inv hc; simp at hi

theorem SRun.block {id : Nat} {c : C} (h : SRun P Γ f n (.code c :: .inB id :: k) T σ Q) : SRun P Γ f n (.code (.block id c) :: k) T σ Q := by
 refine code_steps (fun mc hns hc rest hr => ?_) h
 cases mc with
 | block id' q =>
  simp only [compC, Option.map_eq_some_iff, C.block.injEq] at hc
  obtain ⟨u, hu, rfl, rfl⟩ := hc
  exact ⟨_, .code hu (.inB hr), fun a w cs => .one step_block⟩
 | scope b => exact absurd rfl (hns b)
 | _ => have hi := compC_inv hc; simp at hi

theorem SRun.inB {id : Nat} (h : SRun P Γ f n k T σ Q) : SRun P Γ f n (.inB id :: k) T σ Q := by
 refine SRun.steps (fun todo hr => ?_) h
 obtain ⟨x, rest, hr', hx, hst⟩ := peel hr
 cases hr' with
 | inB h1 => exact ⟨_, h1, fun a w cs => (hst _ a w cs).trans (.one step_inBlock)⟩
 | scope _ => exact absurd rfl (hx _)

theorem SRun.loopIn {c : C} (h : SRun P Γ f n (.code c :: .inL c :: k) T σ Q) : SRun P Γ f n (.code (.loop c) :: k) T σ Q := by
 refine code_steps (fun mc hns hc rest hr => ?_) h
 cases mc with
 | loop q =>
  simp only [compC, Option.map_eq_some_iff, C.loop.injEq] at hc
  obtain ⟨u, hu, rfl⟩ := hc
  exact ⟨_, .code hu (.inL hu hr), fun a w cs => .one step_loop⟩
 | scope b => exact absurd rfl (hns b)
 | _ => have hi := compC_inv hc; simp at hi

theorem SRun.inL {c : C} (h : SRun P Γ f n (.code c :: .inL c :: k) T σ Q) : SRun P Γ f n (.inL c :: k) T σ Q := by
 refine SRun.steps (fun todo hr => ?_) h
 obtain ⟨x, rest, hr', hx, hst⟩ := peel hr
 cases hr' with
 | inL h0 h1 => exact ⟨_, .code h0 (.inL h0 h1), fun a w cs => (hst _ a w cs).trans (.one step_inLoop)⟩
 | scope _ => exact absurd rfl (hx _)

/-- A loop: what holds at its head, and a number that goes down. -/
theorem SRun.loop {c : C} (J : Nat → Ts → St → Prop) (m : Nat) (h0 : J m T σ)
  (round : ∀ m T σ, (∀ m' T' σ', m' < m → J m' T' σ' → SRun P Γ f n (.inL c :: k) T' σ' Q) → J m T σ → SRun P Γ f n (.code c :: .inL c :: k) T σ Q) : SRun P Γ f n (.code (.loop c) :: k) T σ Q := by
 refine SRun.loopIn ?_
 have key : ∀ m T σ, J m T σ → SRun P Γ f n (.code c :: .inL c :: k) T σ Q := by
  intro m
  induction m using Nat.strongRecOn with
  | _ m ih => exact fun T σ hJ => round m T σ (fun m' T' σ' hlt hJ' => SRun.inL (ih m' hlt T' σ' hJ')) hJ
 exact key m T σ h0

/-- Less is known of the temporaries. -/
theorem SRun.forget {T' : Ts} (hl : ∀ p ∈ T', look T p.1 = p.2) (h : SRun P Γ f n k T' σ Q) : SRun P Γ f n k T σ Q :=
 fun todo hr τ w a cs hd hs hp => h todo hr τ w a cs hd hs ⟨hp.dj, hp.sim, hp.glob, hp.kn.less hl⟩
theorem SRun.mono {Q' : V → St → Prop} (h : SRun P Γ f n k T σ Q) (hq : ∀ r s, Q r s → Q' r s) : SRun P Γ f n k T σ Q' := by
 intro todo hr τ w a cs hd hs hp
 obtain ⟨r, v, w', fr, σ', h1, h2, h3, h4, h5⟩ := h todo hr τ w a cs hd hs hp
 exact ⟨r, v, w', fr, σ', h1, h2, h3, hq _ _ h4, h5⟩

theorem SRun.ite {c : Opd} {x y : C} {b : Bool} (hb : ev Γ T c = .bool b) (ht : b = true → SRun P Γ f n (.code x :: k) T σ Q) (hf : b = false → SRun P Γ f n (.code y :: k) T σ Q) : SRun P Γ f n (.code (.ite c x y) :: k) T σ Q := by
 intro todo hr τ w a cs hd hs hp
 obtain ⟨it, rest, hr', hx, hst⟩ := peel hr
 cases hr' with
 | scope _ => exact absurd rfl (hx _)
 | code h1 h2 =>
  rename_i mc
  have key : ∀ (mc : Code) rest, compC P n mc = some (.ite c x y) → RelT P n rest k → ∃ todo', (RelT P n todo' (.code (if b then x else y) :: k)) ∧ Steps P (lone ((bas f).at a (.code mc :: rest)) cs w) (lone ((bas f).at a todo') cs w) := by
   intro mc
   induction mc with
   | scope q ih =>
    intro rest h1 h2
    obtain ⟨todo', g1, g2⟩ := ih (.inScope q :: rest) (by simpa [compC] using h1) (.scope h2)
    exact ⟨todo', g1, .head step_scope g2⟩
   | cond c' p q =>
    intro rest h1 h2
    simp only [compC, Option.bind_eq_bind, Option.bind_eq_some_iff, Option.some.injEq, C.ite.injEq] at h1
    obtain ⟨u, hu, v, hv, z, hz, rfl, rfl, rfl⟩ := h1
    have he := ev_rep hp hu
    rw [hb] at he
    have he := rep_bool_inv he
    refine ⟨_, ?_, .one (step_cond he)⟩
    cases b
    ·exact .code hz h2
    ·exact .code hv h2
   | _ => intro rest h1 h2; have hi := compC_inv h1; simp at hi
  obtain ⟨todo', g1, g2⟩ := key mc rest h1 h2
  have hsub : SRun P Γ f n (.code (if b then x else y) :: k) T σ Q := by
   cases b
   ·exact hf rfl
   ·exact ht rfl
  obtain ⟨r, v, w', fr, σ', s1, s2⟩ := hsub todo' g1 τ w a cs hd hs hp
  exact ⟨r, v, w', fr, σ', (hst _ a w cs).trans (g2.trans s1), s2⟩

def unw (id : Nat) : List It → Option (List It)
 | .inB j :: k => if j == id then some k else unw id k
 | _ :: k => unw id k
 | [] => none
theorem unw_exitTo {id : Nat} {todo : List Item} {k k' : List It} (hr : RelT P n todo k) (hu : unw id k = some k') : ∃ todo', exitTo id todo = some todo' ∧ RelT P n todo' k' := by
 induction hr with
 | nil => simp [unw] at hu
 | code _ _ ih => simp only [unw] at hu; simpa [exitTo] using ih hu
 | ops _ _ _ ih => simp only [unw] at hu; simpa [exitTo] using ih hu
 | inL _ _ ih => simp only [unw] at hu; simpa [exitTo] using ih hu
 | scope _ ih => simpa [exitTo] using ih hu
 | inB hr' ih =>
  rename_i j todo1 k1
  simp only [unw] at hu
  simp only [exitTo]
  split at hu
  ·rename_i h1; obtain rfl := Option.some.inj hu; rw [if_pos h1]; exact ⟨_, rfl, hr'⟩
  ·rename_i h1; rw [if_neg h1]; exact ih hu
theorem SRun.exit {id : Nat} {k' : List It} (hu : unw id k = some k') (h : SRun P Γ f n k' T σ Q) : SRun P Γ f n (.code (.exit id) :: k) T σ Q := by
 refine code_steps (fun mc hns hc rest hr => ?_) h
 cases mc with
 | exit id' =>
  simp only [compC, Option.some.injEq, C.exit.injEq] at hc
  subst hc
  obtain ⟨todo', h1, h2⟩ := unw_exitTo hr hu
  exact ⟨todo', h2, fun a w cs => .one (step_exit h1)⟩
 | scope b => exact absurd rfl (hns b)
 | _ => have hi := compC_inv hc; simp at hi

/-- A region in the order of its text. -/
theorem SRun.ops {l : List GI} (h : SRun P Γ f n (.ops l :: k) T σ Q) : SRun P Γ f n (.code (.ops l) :: k) T σ Q := by
 refine code_steps (fun mc hns hc rest hr => ?_) h
 cases mc with
 | region id os d =>
  cases d with
  | true => have hi := compC_inv hc; simp at hi
  | false =>
   have hi := compC_inv hc
   simp only [true_and, Bool.false_eq_true, false_and, or_false, C.ops.injEq, reduceCtorEq] at hi
   obtain ⟨u, hu, rfl⟩ := hi
   obtain ⟨g1, g2⟩ := mapM_some_get hu
   refine ⟨.inRegion os (List.range os.size) :: rest, .ops (by simpa using g1) (fun j g hg => ?_) hr, fun a w cs => .one step_region⟩
   obtain ⟨o, ho, hcg⟩ := g2 j g hg
   rw [Array.getElem?_toList] at ho
   have hj : j < os.size := by
    rcases Nat.lt_or_ge j os.size with h2 | h2
    ·exact h2
    ·simp [Array.getElem?_eq_none h2] at ho
   exact ⟨j, o, by simp [hj], ho, hcg⟩
 | scope b => exact absurd rfl (hns b)
 | _ => have hi := compC_inv hc; simp at hi

theorem SRun.opsNil (h : SRun P Γ f n k T σ Q) : SRun P Γ f n (.ops [] :: k) T σ Q := by
 refine SRun.steps (fun todo hr => ?_) h
 obtain ⟨x, rest, hr', hx, hst⟩ := peel hr
 cases hr' with
 | ops h0 h1 h2 =>
  rename_i os idx
  have : idx = [] := List.eq_nil_of_length_eq_zero (by simpa using h0)
  subst this
  exact ⟨_, h2, fun a w cs => (hst _ a w cs).trans (.one step_region_end)⟩
 | scope _ => exact absurd rfl (hx _)

theorem compG_inv {os : Array Oper} {o : Oper} {g : GI} (h : compG P n os o = some g) : compI P o = some g.i ∧ g.d = o.dst ∧ (∀ d, o.dst = some d → d < n) ∧ (match o.guard with
  | none => g.g = none
  | some (j, want) => ∃ t, (os[j]?).bind (·.dst) = some t ∧ g.g = some (t, want)) := by
 unfold compG at h
 simp only [Option.bind_eq_bind, Option.bind_eq_some_iff] at h
 obtain ⟨i, hi, gg, hg, h⟩ := h
 by_cases hd : dstOK n o = true
 ·rw [if_pos hd] at h
  obtain rfl := Option.some.inj h
  refine ⟨hi, rfl, fun d hd' => ?_, ?_⟩
  ·simpa [dstOK, hd'] using hd
  ·cases hgd : o.guard with
   | none => simp [hgd] at hg; exact hg.symm
   | some p =>
    obtain ⟨j, want⟩ := p
    simp only [hgd, Option.map_eq_some_iff] at hg
    obtain ⟨t, ht, rfl⟩ := hg
    exact ⟨t, ht, rfl⟩
 ·rw [if_neg hd] at h; simp at h

/-- Does the instruction run? -/
def guardV (Γ : St) (T : Ts) (g : GI) : Option Bool :=
 match g.g with
 | none => some true
 | some (t, want) => match look T t with
  | .bool b => some (b == want)
  | .tup [] => some false
  | _ => none

/-- An operation of the text's order: 'OpOK' for whatever operation it was. -/
def InsOK (P : Program) (Γ : St) (i : I) (T : Ts) (σ : St) (G : V → St → Prop) : Prop := ∀ o, compI P o = some i → OpOK P Γ o T σ G

/-- The machine's steps through one operation. -/
theorem op_steps {ops : Array Oper} {i : Nat} {rest : List Nat} {o : Oper} {a : Act} {w : World} {K : Act → World → Prop} (ho : ops[i]? = some o) (hw : Region.wanted o (yielded ops a.tmps) = true) (h : o.wp P a w K (fun _ _ _ => False))
  (b : Frame) (k : List Item) (cs : List Frame) : ∃ a' w', K a' w' ∧ Steps P (lone (b.at a (.inRegion ops (i :: rest) :: k)) cs w) (lone (b.at a' (.inRegion ops rest :: k)) cs w') := by
 simp only [Oper.wp, Oper.upon] at h
 have hg := stepG_op (P := P) (b := b) (k := k) (cs := cs) (w := w) (rest := rest) ho hw
 have hfin : ∀ v, (b.at a (.inRegion ops (i :: rest) :: k)).finish v = b.at (a.put o.dst v) (.inRegion ops rest :: k) := by
  intro v; rw [Frame.finish_at, ho]; rfl
 split at h
 ·rename_i v w' hr
  refine ⟨_, _, h, .one (step_lone_go ?_)⟩
  rw [hg, ← hfin]; simp [stepG.apply, hr]
 ·rename_i w' hr
  refine ⟨_, _, h, .one (step_lone_go ?_)⟩
  rw [hg, ← hfin]; simp [stepG.apply, hr]
 ·rename_i d w' hr
  refine ⟨_, _, h, .one (step_lone_go ?_)⟩
  have : ({ b.at a (.inRegion ops (i :: rest) :: k) with defers := d :: a.defers } : Frame).finish undef =
    b.at ({ a with defers := d :: a.defers }.put o.dst undef) (.inRegion ops rest :: k) := by
   have := Frame.finish_at b { a with defers := d :: a.defers } ops i rest k undef
   rw [ho] at this; exact this
  rw [hg]; simp only [stepG.apply, Sem.runT_eq, hr, GStep.bare_after]
  exact congrArg (fun fr => GStep.go { frame := fr, callers := cs, status := .running, dying := none } w') this
 ·rename_i f args w' hr
  obtain ⟨e, w'', fr, hR, hsteps, _, hleave⟩ := h (b.at a (.inRegion ops (i :: rest) :: k) :: cs)
  have henter : step P (lone (b.at a (.inRegion ops (i :: rest) :: k)) cs w) =
    .next (lone (Frame.enter P f args .normal) (b.at a (.inRegion ops (i :: rest) :: k) :: cs) w') :=
   step_lone_go (by rw [hg]; simp [stepG.apply, hr, Frame.at])
  cases e with
  | returned v =>
   refine ⟨_, _, hR, .head henter (hsteps.trans (.one ?_))⟩
   rw [← hfin]; exact step_leave_returned hleave
  | panicked chain => exact hR.elim
  | outgrown => obtain ⟨_, _, hF⟩ := hR; exact hF.elim
 ·rename_i row args w' hr
  obtain ⟨v, w'', hR, hsteps⟩ := h (b.at a (.inRegion ops (i :: rest) :: k)) cs
  have henter : step P (lone (b.at a (.inRegion ops (i :: rest) :: k)) cs w) =
    .next (lone (Frame.ofRow P row args .normal) (b.at a (.inRegion ops (i :: rest) :: k) :: cs) w') :=
   step_lone_go (by rw [hg]; simp [stepG.apply, hr, Frame.at])
  refine ⟨_, _, hR, .head henter ?_⟩
  rw [← hfin]; exact hsteps
 ·exact h.elim
 ·exact h.elim

theorem SRun.op {g : GI} {l : List GI} {G : V → St → Prop} (hg : guardV Γ T g = some true) (hop : InsOK P Γ g.i T σ G) (h : ∀ x s, G x s → SRun P Γ f n (.ops l :: k) (putT T g.d x) s Q) : SRun P Γ f n (.ops (g :: l) :: k) T σ Q := by
 intro todo hr τ w a cs hd hs hp
 obtain ⟨it, rest, hr', hx, hst⟩ := peel hr
 cases hr' with
 | scope _ => exact absurd rfl (hx _)
 | ops h0 h1 h2 =>
  rename_i os idx
  cases idx with
  | nil => simp at h0
  | cons i idx =>
   obtain ⟨i', o, hi, ho, hcg⟩ := h1 0 g rfl
   simp at hi; subst hi
   obtain ⟨c1, c2, c3, c4⟩ := compG_inv hcg
   have hw : Region.wanted o (yielded os a.tmps) = true := by
    unfold Region.wanted
    cases hgd : o.guard with
    | none => rfl
    | some p =>
     obtain ⟨j, want⟩ := p
     rw [hgd] at c4
     obtain ⟨t, ht, hgt⟩ := c4
     unfold guardV at hg
     rw [hgt] at hg
     simp only at hg ⊢
     have hk := hp.kn t
     split at hg
     ·rename_i b hb
      rw [hb] at hk
      have hk := rep_bool_inv hk
      have ht' : a.tmps[t]? = some (.bool b) := by
       rcases Nat.lt_or_ge t a.tmps.size with h3 | h3
       ·rw [aget_of_lt h3, hk]
       ·rw [Array.getD_eq_getD_getElem?, Array.getElem?_eq_none h3] at hk; simp [undef] at hk
      have hy : yielded os a.tmps j = some b := by simp only [yielded, ht, Option.bind_some, ht']
      rw [hy]; simpa using hg
     ·simp at hg
     ·simp at hg
   have hwp := hop o c1 τ w a hp
   obtain ⟨a', w1, ⟨x, v, σ', rfl, hG, hpost⟩, hst2⟩ := op_steps (rest := idx) ho hw hwp (bas f) (by assumption) cs
   have hlt : ∀ t, o.dst = some t → t < a.tmps.size := fun t ht => by rw [hs]; exact c3 t ht
   have hpre' := Post.pre hp hpost hlt
   obtain ⟨r, v', w', fr, σ2, s1, s2, s3, s4, s5⟩ := h x σ' hG (.inRegion os idx :: _) (.ops (by simpa using h0) (fun j g' hg' => h1 (j + 1) g' hg') h2) τ w1 (a.put o.dst v) cs
    (by cases hdst : o.dst <;> simp [Act.put, hd]) (by cases hdst : o.dst <;> simp [Act.put, hs]) (by rw [c2]; exact hpre')
   exact ⟨r, v', w', fr, σ2, (hst _ a w cs).trans (hst2.trans s1), s2, s3, s4, s5.1, s5.2.1, s5.2.2.1, hpost.2.2.2.trans s5.2.2.2⟩

/-- An operation whose guard says no. -/
theorem SRun.opSkip {g : GI} {l : List GI} (hg : guardV Γ T g = some false) (h : SRun P Γ f n (.ops l :: k) (putT T g.d (.tup [])) σ Q) : SRun P Γ f n (.ops (g :: l) :: k) T σ Q := by
 intro todo hr τ w a cs hd hs hp
 obtain ⟨it, rest, hr', hx, hst⟩ := peel hr
 cases hr' with
 | scope _ => exact absurd rfl (hx _)
 | ops h0 h1 h2 =>
  rename_i os idx
  cases idx with
  | nil => simp at h0
  | cons i idx =>
   obtain ⟨i', o, hi, ho, hcg⟩ := h1 0 g rfl
   simp at hi; subst hi
   obtain ⟨c1, c2, c3, c4⟩ := compG_inv hcg
   have hw : Region.wanted o (yielded os a.tmps) = false := by
    unfold Region.wanted
    cases hgd : o.guard with
    | none => rw [hgd] at c4; simp only at c4; unfold guardV at hg; rw [c4] at hg; simp at hg
    | some p =>
     obtain ⟨j, want⟩ := p
     rw [hgd] at c4
     obtain ⟨t, ht, hgt⟩ := c4
     unfold guardV at hg
     rw [hgt] at hg
     simp only at hg ⊢
     have hk := hp.kn t
     split at hg
     ·rename_i b hb
      rw [hb] at hk
      have hk := rep_bool_inv hk
      have ht' : a.tmps[t]? = some (.bool b) := by
       rcases Nat.lt_or_ge t a.tmps.size with h3 | h3
       ·rw [aget_of_lt h3, hk]
       ·rw [Array.getD_eq_getD_getElem?, Array.getElem?_eq_none h3] at hk; simp [undef] at hk
      have hy : yielded os a.tmps j = some b := by simp only [yielded, ht, Option.bind_some, ht']
      rw [hy]; simp at hg ⊢; exact hg
     ·rename_i hb
      rw [hb] at hk
      have hk : ∃ vs, a.tmps.getD t undef = .tuple vs := by
       generalize a.tmps.getD t undef = q at hk
       cases hk; exact ⟨_, rfl⟩
      obtain ⟨vs, hk⟩ := hk
      have hy : yielded os a.tmps j = none := by
       simp only [yielded, ht, Option.bind_some]
       rcases Nat.lt_or_ge t a.tmps.size with h3 | h3
       ·rw [aget_of_lt h3, hk]
       ·rw [Array.getElem?_eq_none h3]
      rw [hy]; rfl
     ·simp at hg
   have hlt : ∀ t, o.dst = some t → t < a.tmps.size := fun t ht => by rw [hs]; exact c3 t ht
   have hstep := step_op_skip (P := P) (b := bas f) (a := a) (k := (by assumption)) (cs := cs) (w := w) (ops := os) (i := i) (rest := idx) (by simp [ho, hw])
   simp only [ho, Option.bind_some] at hstep
   have hpost : Post σ τ w (.tup []) undef σ w := ⟨hp.dj, hp.sim, .tup [] #[] rfl (fun i x hx => by simp at hx), .refl _ _⟩
   have hpre' := Post.pre hp hpost hlt
   obtain ⟨r, v', w', fr, σ2, s1, s2⟩ := h (.inRegion os idx :: _) (.ops (by simpa using h0) (fun j g' hg' => h1 (j + 1) g' hg') h2) τ w (a.put o.dst undef) cs
    (by cases hdst : o.dst <;> simp [Act.put, hd]) (by cases hdst : o.dst <;> simp [Act.put, hs]) (by rw [c2]; exact hpre')
   exact ⟨r, v', w', fr, σ2, (hst _ a w cs).trans (.head hstep s1), s2⟩

end
end Go.Proofs.Ytdenfjbhkdhlkaa.Lg
