/- The own logic: straight code run by simp: 'W' unfolds; where a contract or an invariant is due it stands still. It holds for every program. -/
import Derived.Test.YtdenfjbhkdhlkaaLgH
set_option linter.unusedSimpArgs false
set_option linter.unusedVariables false
namespace Go.Proofs.Ytdenfjbhkdhlkaa.Lg
open Go

section
variable (P : Program) (Γ : St) (f : FuncId) (n : Nat) (Q : V → St → Prop)

/-- How a read goes on: out of cells that are told. -/
def rdW (ag : Bool) (m : Nat) (cs : List V) (off : Nat) (K : V → Prop) : Prop :=
 match ag with
 | true => off + m ≤ cs.length ∧ K (.agg ((cs.drop off).take m))
 | false => m = 1 ∧ ∃ x, cs[off]? = some x ∧ K x

def csize : C → Nat
 | .seq a b => 1 + csize a + csize b
 | .ite _ a b => 1 + csize a + csize b
 | .block _ c => 2 + csize c
 | .ops l => 2 + l.length
 | _ => 1
def isize : It → Nat
 | .code c => csize c
 | .ops l => 1 + l.length
 | _ => 1
def ksize : List It → Nat
 | [] => 0
 | x :: r => isize x + ksize r
theorem csize_pos (c : C) : 0 < csize c := by cases c <;> simp [csize] <;> omega
theorem unw_size {id : Nat} : ∀ {k k' : List It}, unw id k = some k' → ksize k' ≤ ksize k := by
 intro k
 induction k with
 | nil => intro k' h; simp [unw] at h
 | cons x r ih =>
  intro k' h
  cases x with
  | inB j =>
   simp only [unw] at h
   split at h
   ·obtain rfl := Option.some.inj h; simp [ksize]
   ·have := ih h; simp only [ksize]; omega
  | _ => simp only [unw] at h; have := ih h; simp only [ksize]; omega

/-- The weakest of what the next instruction wants. 'K' goes on with its value and what is owned then. -/
def insW (i : I) (T : Ts) (σ : St) (K : V → St → Prop) : Option Prop :=
 match i with
 | .load ag m a => match ev Γ T a with
  | .ptr b off => some (∃ cs, σ b = some cs ∧ rdW ag m cs off fun x => K x σ)
  | .iptr cs => some (rdW ag m cs 0 fun x => K x σ)
  | _ => some False
 | .iaddr es x j => match ev Γ T x, ev Γ T j with
  | .isl _ es' xs, .int _ m => some (0 ≤ m ∧ ∃ y, xs[m.toNat]? = some y ∧ es' = es ∧ K (.iptr y.cells) σ)
  | .msl b es' off len _, .int _ m => some (0 ≤ m ∧ m < len ∧ es' = es ∧ K (.ptr b (off + m.toNat * es)) σ)
  | _, _ => some False
 | .idxs x j => match ev Γ T x, ev Γ T j with
  | .str s, .int _ m => some (0 ≤ m ∧ ∃ c, s[m.toNat]? = some c ∧ K (.int .u8 (c.toNat : Int)) σ)
  | _, _ => some False
 | .store m a x => match ev Γ T a with
  | .ptr b off => some (∃ cs, σ b = some cs ∧ (ev Γ T x).cells.length = m ∧ (∀ c ∈ (ev Γ T x).cells, c.one = true) ∧ off + m ≤ cs.length ∧ K .undef (upd σ b (sets cs off (ev Γ T x).cells)))
  | _ => some False
 | i => match pureI σ (ev Γ T) i with
  | some (p, x) => some (p ∧ K x σ)
  | none => none

def W : List It → Ts → St → Prop
 | [], T, σ => SRun P Γ f n [] T σ Q
 | .code .skip :: k, T, σ => W k T σ
 | .code (.seq a b) :: k, T, σ => W (.code a :: .code b :: k) T σ
 | .code (.ops l) :: k, T, σ => W (.ops l :: k) T σ
 | .code (.block id c) :: k, T, σ => W (.code c :: .inB id :: k) T σ
 | .code (.ite c x y) :: k, T, σ => match ev Γ T c with
  | .bool b => (b = true → W (.code x :: k) T σ) ∧ (b = false → W (.code y :: k) T σ)
  | _ => False
 | .code (.exit id) :: k, T, σ => match h : unw id k with
  | some k' => W k' T σ
  | none => False
 | .inB _ :: k, T, σ => W k T σ
 | .ops [] :: k, T, σ => W k T σ
 | .ops (g :: l) :: k, T, σ => match guardV Γ T g with
  | some true => (insW Γ g.i T σ fun x s => W (.ops l :: k) (putT T g.d x) s).getD (SRun P Γ f n (.ops (g :: l) :: k) T σ Q)
  | some false => W (.ops l :: k) (putT T g.d (.tup [])) σ
  | none => SRun P Γ f n (.ops (g :: l) :: k) T σ Q
 | k, T, σ => SRun P Γ f n k T σ Q
termination_by k => ksize k
decreasing_by
 all_goals simp only [ksize, isize, csize, List.length_cons, List.length_nil]
 all_goals first
  | omega
  | (have := csize_pos x; have := csize_pos y; omega)
  | (have := unw_size h; omega)
  | (have := csize_pos y; omega)
  | (have := csize_pos x; omega)

variable {P Γ f n Q}

theorem rdW_mono {ag : Bool} {m : Nat} {cs : List V} {off : Nat} {K : V → Prop} (h : rdW ag m cs off K) : ∃ x, off + m ≤ cs.length ∧ (ag = false → m = 1) ∧ K x ∧ x = (bif ag then .agg ((cs.drop off).take m) else cs.getD off .undef) := by
 cases ag with
 | true => exact ⟨_, h.1, (fun h => by cases h), h.2, rfl⟩
 | false =>
  obtain ⟨rfl, x, hx, hk⟩ := h
  have hlt := (List.getElem?_eq_some_iff.1 hx).1
  exact ⟨x, by omega, fun _ => rfl, hk, by simp [List.getD, hx]⟩

theorem insW_ok {g : GI} {l : List GI} {k : List It} {T : Ts} {σ : St} {p : Prop} {K : V → St → Prop} (hg : guardV Γ T g = some true) (hi : insW Γ g.i T σ K = some p) (hp : p) (hK : ∀ x s, K x s → SRun P Γ f n (.ops l :: k) (putT T g.d x) s Q) :
  SRun P Γ f n (.ops (g :: l) :: k) T σ Q := by
 have pur : ∀ (q : Prop) (x : V), pureI σ (ev Γ T) g.i = some (q, x) → q → K x σ → SRun P Γ f n (.ops (g :: l) :: k) T σ Q := by
  intro q x h1 h2 h3
  exact SRun.op (G := fun y s => y = x ∧ s = σ) hg (InsOK.pure h1 h2 ⟨rfl, rfl⟩) (fun y s ⟨e1, e2⟩ => by subst e1 e2; exact hK _ _ h3)
 obtain ⟨d, gd, i⟩ := g
 cases i with
 | load ag m a =>
  simp only [insW] at hi
  split at hi
  ·rename_i b off hb
   obtain rfl := Option.some.inj hi
   obtain ⟨cs, hcs, hr⟩ := hp
   obtain ⟨x, h1, h2, h3, rfl⟩ := rdW_mono hr
   exact pur (off + m ≤ cs.length ∧ (ag = false → m = 1)) _ (by simp only [pureI, hb, hcs]) ⟨h1, h2⟩ h3
  ·rename_i cs hb
   obtain rfl := Option.some.inj hi
   obtain ⟨x, h1, h2, h3, rfl⟩ := rdW_mono hp
   exact pur (m ≤ cs.length ∧ (ag = false → m = 1)) (bif ag then .agg (cs.take m) else cs.getD 0 .undef) (by simp only [pureI, hb]) ⟨by omega, h2⟩ (by simpa using h3)
  ·obtain rfl := Option.some.inj hi; exact hp.elim
 | iaddr es x j =>
  simp only [insW] at hi
  split at hi
  ·rename_i ex es' xs kk m h1 h2
   obtain rfl := Option.some.inj hi
   obtain ⟨h0, y, hy, he, h3⟩ := hp
   have hlt := (List.getElem?_eq_some_iff.1 hy).1
   have hgd : xs.getD m.toNat .undef = y := by simp [List.getD, hy]
   exact pur (0 ≤ m ∧ m < xs.length ∧ es' = es) (.iptr y.cells) (by simp only [pureI, h1, h2, hgd]) ⟨h0, by omega, he⟩ h3
  ·rename_i b es' off len cap kk m h1 h2
   obtain rfl := Option.some.inj hi
   obtain ⟨h0, hl, he, h3⟩ := hp
   exact pur (0 ≤ m ∧ m < len ∧ es' = es) _ (by simp only [pureI, h1, h2]) ⟨h0, hl, he⟩ h3
  ·obtain rfl := Option.some.inj hi; exact hp.elim
 | idxs x j =>
  simp only [insW] at hi
  split at hi
  ·rename_i s kk m h1 h2
   obtain rfl := Option.some.inj hi
   obtain ⟨h0, c, hc, h3⟩ := hp
   have hlt := (List.getElem?_eq_some_iff.1 hc).1
   have hgd : s.getD m.toNat 0 = c := by simp [List.getD, hc]
   exact pur (0 ≤ m ∧ m < s.length) (.int .u8 (c.toNat : Int)) (by simp only [pureI, h1, h2, hgd]) ⟨h0, by omega⟩ h3
  ·obtain rfl := Option.some.inj hi; exact hp.elim
 | store m a x =>
  simp only [insW] at hi
  split at hi
  ·rename_i b off hb
   obtain rfl := Option.some.inj hi
   obtain ⟨cs, hcs, h1, h2, h3, h4⟩ := hp
   exact SRun.op (G := fun y s => y = .undef ∧ s = upd σ b (sets cs off (ev Γ T x).cells)) hg (InsOK.store hb hcs h1 h2 h3 ⟨rfl, rfl⟩) (fun y s ⟨e1, e2⟩ => by subst e1 e2; exact hK _ _ h4)
  ·obtain rfl := Option.some.inj hi; exact hp.elim
 | _ =>
  simp only [insW] at hi
  split at hi
  ·rename_i q x h1
   obtain rfl := Option.some.inj hi
   exact pur q x h1 hp.1 hp.2
  ·cases hi

theorem W.sound : ∀ {k : List It} {T : Ts} {σ : St}, W P Γ f n Q k T σ → SRun P Γ f n k T σ Q := by
 have key : ∀ (m : Nat) (k : List It) (T : Ts) (σ : St), ksize k = m → W P Γ f n Q k T σ → SRun P Γ f n k T σ Q := by
  intro m
  induction m using Nat.strongRecOn with
  | _ m ih =>
   intro k T σ hm h
   have go : ∀ k' T' σ', ksize k' < ksize k → W P Γ f n Q k' T' σ' → SRun P Γ f n k' T' σ' Q := fun k' T' σ' hlt h' => ih (ksize k') (hm ▸ hlt) k' T' σ' rfl h'
   unfold W at h
   split at h
   ·exact h
   ·exact SRun.skip (go _ _ _ (by simp [ksize, isize, csize]) h)
   ·exact SRun.seq (go _ _ _ (by simp [ksize, isize, csize]; omega) h)
   ·exact SRun.ops (go _ _ _ (by simp [ksize, isize, csize]) h)
   ·exact SRun.block (go _ _ _ (by simp [ksize, isize, csize]; omega) h)
   ·rename_i c x y k
    split at h
    ·rename_i b hb
     exact SRun.ite hb (fun e => go _ _ _ (by have := csize_pos y; simp [ksize, isize, csize]; omega) (h.1 e)) (fun e => go _ _ _ (by have := csize_pos x; simp [ksize, isize, csize]; omega) (h.2 e))
    ·exact h.elim
   ·rename_i id k
    split at h
    ·rename_i k' hu
     exact SRun.exit hu (go _ _ _ (by have := unw_size hu; simp [ksize, isize, csize]; omega) h)
    ·exact h.elim
   ·exact SRun.inB (go _ _ _ (by simp [ksize, isize]) h)
   ·exact SRun.opsNil (go _ _ _ (by simp [ksize, isize]) h)
   ·rename_i g l k
    split at h
    ·rename_i hg
     cases hi : insW Γ g.i T σ (fun x s => W P Γ f n Q (.ops l :: k) (putT T g.d x) s) with
     | none => rw [hi] at h; exact h
     | some p =>
      rw [hi] at h
      exact insW_ok hg hi h (fun x s hW => go _ _ _ (by simp [ksize, isize]) hW)
    ·rename_i hg
     exact SRun.opSkip hg (go _ _ _ (by simp [ksize, isize]) h)
    ·exact h
   ·exact h
 intro k T σ h
 exact key _ _ _ _ rfl h

/-! The steps that simp takes -/
def cev : Opd → V
 | .c v => v
 | _ => .undef
/-- An instruction with its operands told. -/
def I.sub (e : Opd → V) : I → I
 | .mv x => .mv (.c (e x))
 | .pick c a b => .pick (.c (e c)) (.c (e a)) (.c (e b))
 | .alloc z => .alloc z
 | .box n x => .box n (.c (e x))
 | .build z ps => .build z (ps.map fun q => (q.1, q.2.1, .c (e q.2.2)))
 | .bsl es n zv ps => .bsl es n zv (ps.map fun q => (q.1, .c (e q.2)))
 | .load ag n a => .load ag n (.c (e a))
 | .store n a x => .store n (.c (e a)) (.c (e x))
 | .nilck x => .nilck (.c (e x))
 | .bin op x y => .bin op (.c (e x)) (.c (e y))
 | .eqb neg x y => .eqb neg (.c (e x)) (.c (e y))
 | .eqp neg x y => .eqp neg (.c (e x)) (.c (e y))
 | .eqa neg ks x y => .eqa neg ks (.c (e x)) (.c (e y))
 | .eqs neg x => .eqs neg (.c (e x))
 | .un op x => .un op (.c (e x))
 | .i2i k x => .i2i k (.c (e x))
 | .b2s x => .b2s (.c (e x))
 | .s2b x => .s2b (.c (e x))
 | .mkfn f caps => .mkfn f (caps.map fun x => .c (e x))
 | .mksl es bytes z l c => .mksl es bytes z (.c (e l)) (.c (e c))
 | .sl es x lo hi m3 => .sl es (.c (e x)) (lo.map fun y => .c (e y)) (hi.map fun y => .c (e y)) (m3.map fun y => .c (e y))
 | .sls x lo hi => .sls (.c (e x)) (lo.map fun y => .c (e y)) (hi.map fun y => .c (e y))
 | .sla n es x => .sla n es (.c (e x))
 | .faddr off x => .faddr off (.c (e x))
 | .field ag off n x => .field ag off n (.c (e x))
 | .iaddr es x i => .iaddr es (.c (e x)) (.c (e i))
 | .iaddrA es m3 x i => .iaddrA es m3 (.c (e x)) (.c (e i))
 | .idxs x i => .idxs (.c (e x)) (.c (e i))
 | .idxA ag es m3 x i => .idxA ag es m3 (.c (e x)) (.c (e i))
 | .ext x n => .ext (.c (e x)) n
 | .len x => .len (.c (e x))
 | .lens x => .lens (.c (e x))
 | .mx x y => .mx (.c (e x)) (.c (e y))
 | .mn x y => .mn (.c (e x)) (.c (e y))
 | .app es bytes s x => .app es bytes (.c (e s)) (.c (e x))
 | .appz es bytes z s n => .appz es bytes z (.c (e s)) (.c (e n))
 | .copy es d s => .copy es (.c (e d)) (.c (e s))
 | .clear es z x => .clear es z (.c (e x))
 | .cap x => .cap (.c (e x))
 | .call f args => .call (.c (e f)) (args.map fun x => .c (e x))

theorem fillV_sub (e : Opd → V) (ps : List (Nat × Nat × Opd)) : ∀ z, fillV cev z (ps.map fun q => (q.1, q.2.1, .c (e q.2.2))) = fillV e z ps := by
 induction ps with
 | nil => intro z; rfl
 | cons q r ih => intro z; obtain ⟨o, m, x⟩ := q; simp only [List.map_cons, fillV, cev]; exact ih _
theorem fillOK_sub (e : Opd → V) (n : Nat) (ps : List (Nat × Nat × Opd)) : fillOK cev n (ps.map fun q => (q.1, q.2.1, .c (e q.2.2))) = fillOK e n ps := by
 induction ps with
 | nil => rfl
 | cons q r ih => obtain ⟨o, m, x⟩ := q; simp only [List.map_cons, fillOK, cev, ih]
theorem rowV_sub (e : Opd → V) (ps : List (Nat × Opd)) : ∀ z, rowV cev z (ps.map fun q => (q.1, .c (e q.2))) = rowV e z ps := by
 induction ps with
 | nil => intro z; rfl
 | cons q r ih => intro z; obtain ⟨o, x⟩ := q; simp only [List.map_cons, rowV, cev]; exact ih _
theorem rowOK_sub (e : Opd → V) (es n : Nat) (ps : List (Nat × Opd)) : rowOK cev es n (ps.map fun q => (q.1, .c (e q.2))) = rowOK e es n ps := by
 induction ps with
 | nil => rfl
 | cons q r ih => obtain ⟨o, x⟩ := q; simp only [List.map_cons, rowOK, cev, ih]
theorem bnd_sub (e : Opd → V) (d : Int) (lo : Option Opd) : bnd cev d (lo.map fun y => .c (e y)) = bnd e d lo := by cases lo <;> rfl
theorem cutV_sub (e : Opd → V) (len cap : Nat) (lo hi mx : Option Opd) : cutV cev len cap (lo.map fun y => .c (e y)) (hi.map fun y => .c (e y)) (mx.map fun y => .c (e y)) = cutV e len cap lo hi mx := by
 rw [cutV_eq, cutV_eq, bnd_sub, bnd_sub, bnd_sub]
theorem pureI_sub (σ : St) (e : Opd → V) (i : I) : pureI σ cev (i.sub e) = pureI σ e i := by
 cases i <;> simp only [I.sub, pureI, cev, fillV_sub, fillOK_sub, rowV_sub, rowOK_sub, List.map_map]
 case mkfn f caps => rfl
 case sl es x lo hi m3 =>
  cases m3 with
  | none => simp only [Option.map_none, ← cutV_sub e _ _ lo hi none]
  | some q => simp only [Option.map_some, ← cutV_sub e _ _ lo hi (some q)]
 case sls x lo hi => simp only [← cutV_sub e _ _ lo hi none, Option.map_none]

/-- One instruction, its operands told: what is wanted, and how it goes on. -/
def stepW (P : Program) (Γ : St) (f : FuncId) (n : Nat) (Q : V → St → Prop) (i' : I) (g : GI) (l : List GI) (k : List It) (T : Ts) (σ : St) : Prop :=
 (insW emp i' [] σ fun x s => W P Γ f n Q (.ops l :: k) (putT T g.d x) s).getD (SRun P Γ f n (.ops (g :: l) :: k) T σ Q)
/-- A pure instruction's outcome. -/
def pureW (P : Program) (Γ : St) (f : FuncId) (n : Nat) (Q : V → St → Prop) (o : Option (Prop × V)) (g : GI) (l : List GI) (k : List It) (T : Ts) (σ : St) : Prop :=
 match o with
 | some (p, x) => p ∧ W P Γ f n Q (.ops l :: k) (putT T g.d x) σ
 | none => SRun P Γ f n (.ops (g :: l) :: k) T σ Q
def iteW (P : Program) (Γ : St) (f : FuncId) (n : Nat) (Q : V → St → Prop) (v : V) (x y : C) (k : List It) (T : Ts) (σ : St) : Prop :=
 match v with
 | .bool b => (b = true → W P Γ f n Q (.code x :: k) T σ) ∧ (b = false → W P Γ f n Q (.code y :: k) T σ)
 | _ => False
def guardW (P : Program) (Γ : St) (f : FuncId) (n : Nat) (Q : V → St → Prop) (v : V) (want : Bool) (g : GI) (l : List GI) (k : List It) (T : Ts) (σ : St) : Prop :=
 match v with
 | .bool b => (b = want → stepW P Γ f n Q (g.i.sub (ev Γ T)) g l k T σ) ∧ (b ≠ want → W P Γ f n Q (.ops l :: k) (putT T g.d (.tup [])) σ)
 | .tup [] => W P Γ f n Q (.ops l :: k) (putT T g.d (.tup [])) σ
 | _ => SRun P Γ f n (.ops (g :: l) :: k) T σ Q

theorem ev_emp (x : V) : ev emp [] (.c x) = x := rfl
theorem ev_emp_sub (e : Opd → V) : (fun o : Opd => ev emp [] o) = fun o => ev emp [] o := rfl
theorem ev_cev : (ev emp [] : Opd → V) = fun o => match o with | .c v => v | .f m => .fn m [] | _ => .undef := by
 funext o; cases o <;> rfl

section
variable {d : Option Nat} {l : List GI} {k : List It} {T : Ts} {σ : St}
theorem W_skip : W P Γ f n Q (.code .skip :: k) T σ = W P Γ f n Q k T σ := by rw [W]
theorem W_seq (a b : C) : W P Γ f n Q (.code (.seq a b) :: k) T σ = W P Γ f n Q (.code a :: .code b :: k) T σ := by rw [W]
theorem W_opsC : W P Γ f n Q (.code (.ops l) :: k) T σ = W P Γ f n Q (.ops l :: k) T σ := by rw [W]
theorem W_block (id : Nat) (c : C) : W P Γ f n Q (.code (.block id c) :: k) T σ = W P Γ f n Q (.code c :: .inB id :: k) T σ := by rw [W]
theorem W_inB (id : Nat) : W P Γ f n Q (.inB id :: k) T σ = W P Γ f n Q k T σ := by rw [W]
theorem W_nil : W P Γ f n Q (.ops [] :: k) T σ = W P Γ f n Q k T σ := by rw [W]
theorem W_ite (c : Opd) (x y : C) : W P Γ f n Q (.code (.ite c x y) :: k) T σ = iteW P Γ f n Q (ev Γ T c) x y k T σ := by rw [W]; rfl
theorem W_loop (c : C) : W P Γ f n Q (.code (.loop c) :: k) T σ = SRun P Γ f n (.code (.loop c) :: k) T σ Q := by unfold W; rfl
theorem W_draw (dl : List DT) : W P Γ f n Q (.code (.draw dl) :: k) T σ = SRun P Γ f n (.code (.draw dl) :: k) T σ Q := by unfold W; rfl
theorem W_ret : W P Γ f n Q (.code .ret :: k) T σ = SRun P Γ f n (.code .ret :: k) T σ Q := by unfold W; rfl
theorem W_inL (c : C) : W P Γ f n Q (.inL c :: k) T σ = SRun P Γ f n (.inL c :: k) T σ Q := by unfold W; rfl
theorem W_exit {id : Nat} {k' : List It} (h : unw id k = some k') : W P Γ f n Q (.code (.exit id) :: k) T σ = W P Γ f n Q k' T σ := by
 rw [W]; split
 ·rename_i q hq; rw [h] at hq; cases hq; rfl
 ·rename_i hq; rw [h] at hq; cases hq
theorem exitW_inB (id j : Nat) : W P Γ f n Q (.code (.exit id) :: .inB j :: k) T σ = if j = id then W P Γ f n Q k T σ else W P Γ f n Q (.code (.exit id) :: k) T σ := by
 split
 ·rename_i h; exact W_exit (by simp [unw, h])
 ·rename_i h
  cases hu : unw id k with
  | some q => rw [W_exit hu]; exact W_exit (by simp [unw, h, hu])
  | none =>
   rw [W, W]
   split
   ·rename_i q hq; simp [unw, h, hu] at hq
   ·split
    ·rename_i q hq; simp [hu] at hq
    ·rfl
theorem exitW_other (id : Nat) (x : It) (h : ∀ j, x ≠ .inB j) : W P Γ f n Q (.code (.exit id) :: x :: k) T σ = W P Γ f n Q (.code (.exit id) :: k) T σ := by
 have hu : unw id (x :: k) = unw id k := by cases x <;> first | rfl | exact absurd rfl (h _)
 cases hk : unw id k with
 | some q => rw [W_exit hk]; exact W_exit (by rw [hu, hk])
 | none =>
  rw [W, W]
  split
  ·rename_i q hq; rw [hu, hk] at hq; cases hq
  ·split
   ·rename_i q hq; rw [hk] at hq; cases hq
   ·rfl
theorem exitW_code (id : Nat) (c : C) : W P Γ f n Q (.code (.exit id) :: .code c :: k) T σ = W P Γ f n Q (.code (.exit id) :: k) T σ := exitW_other _ _ (by simp)
theorem exitW_ops (id : Nat) (c : List GI) : W P Γ f n Q (.code (.exit id) :: .ops c :: k) T σ = W P Γ f n Q (.code (.exit id) :: k) T σ := exitW_other _ _ (by simp)
theorem exitW_inL (id : Nat) (c : C) : W P Γ f n Q (.code (.exit id) :: .inL c :: k) T σ = W P Γ f n Q (.code (.exit id) :: k) T σ := exitW_other _ _ (by simp)

theorem insW_sub (i : I) (K : V → St → Prop) : insW emp (i.sub (ev Γ T)) [] σ K = insW Γ i T σ K := by
 have hp : pureI σ (ev emp []) (i.sub (ev Γ T)) = pureI σ (ev Γ T) i := by
  rw [← pureI_sub σ (ev Γ T) i]
  have h2 := pureI_sub σ (ev emp []) (i.sub (ev Γ T))
  have h3 : (i.sub (ev Γ T)).sub (ev emp []) = i.sub (ev Γ T) := by
   cases i <;> simp [I.sub, ev, Function.comp_def]
  rw [h3] at h2
  exact h2.symm
 cases i <;> simp only [insW, I.sub, ev_emp] <;> (try simp only [I.sub] at hp; rw [hp])

theorem W_cons (i : I) : W P Γ f n Q (.ops (⟨d, none, i⟩ :: l) :: k) T σ = stepW P Γ f n Q (i.sub (ev Γ T)) ⟨d, none, i⟩ l k T σ := by
 rw [W]
 simp only [guardV, stepW, insW_sub]
theorem W_guard (t : Nat) (want : Bool) (i : I) : W P Γ f n Q (.ops (⟨d, some (t, want), i⟩ :: l) :: k) T σ = guardW P Γ f n Q (look T t) want ⟨d, some (t, want), i⟩ l k T σ := by
 rw [W]
 simp only [guardV, guardW, stepW, insW_sub]
 cases look T t with
 | bool b => cases b <;> cases want <;> simp
 | tup vs => cases vs <;> rfl
 | _ => rfl
theorem iteW_true (x y : C) : iteW P Γ f n Q (.bool true) x y k T σ = W P Γ f n Q (.code x :: k) T σ := by simp [iteW]
theorem iteW_false (x y : C) : iteW P Γ f n Q (.bool false) x y k T σ = W P Γ f n Q (.code y :: k) T σ := by simp [iteW]
theorem guardW_tt (g : GI) : guardW P Γ f n Q (.bool true) true g l k T σ = stepW P Γ f n Q (g.i.sub (ev Γ T)) g l k T σ := by simp [guardW]
theorem guardW_ff (g : GI) : guardW P Γ f n Q (.bool false) false g l k T σ = stepW P Γ f n Q (g.i.sub (ev Γ T)) g l k T σ := by simp [guardW]
theorem guardW_tf (g : GI) : guardW P Γ f n Q (.bool true) false g l k T σ = W P Γ f n Q (.ops l :: k) (putT T g.d (.tup [])) σ := by simp [guardW]
theorem guardW_ft (g : GI) : guardW P Γ f n Q (.bool false) true g l k T σ = W P Γ f n Q (.ops l :: k) (putT T g.d (.tup [])) σ := by simp [guardW]
theorem guardW_un (want : Bool) (g : GI) : guardW P Γ f n Q (.tup []) want g l k T σ = W P Γ f n Q (.ops l :: k) (putT T g.d (.tup [])) σ := rfl
/-- Where it is not known which way it goes. -/
theorem iteW_of {b : Bool} {x y : C} (h1 : b = true → W P Γ f n Q (.code x :: k) T σ) (h2 : b = false → W P Γ f n Q (.code y :: k) T σ) : iteW P Γ f n Q (.bool b) x y k T σ := ⟨h1, h2⟩
theorem guardW_of {b want : Bool} {g : GI} (h1 : b = true → guardW P Γ f n Q (.bool true) want g l k T σ) (h2 : b = false → guardW P Γ f n Q (.bool false) want g l k T σ) : guardW P Γ f n Q (.bool b) want g l k T σ := by
 cases b
 ·exact h2 rfl
 ·exact h1 rfl
end

end
end Go.Proofs.Ytdenfjbhkdhlkaa.Lg
