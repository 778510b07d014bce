/- The own logic: regions that draw, run by simp; contracts that are told anew; what is given up. It holds for every program. -/
import Derived.Test.YtdenfjbhkdhlkaaLgZ
set_option linter.unusedSimpArgs false
set_option linter.unusedVariables false
namespace Go.Proofs.Ytdenfjbhkdhlkaa.Lg
open Go

section
variable {P : Program} {Γ : St} {f : FuncId} {n : Nat} {Q : V → St → Prop} {k : List It} {T : Ts} {σ : St}

/-- One instruction, its operands told: what is wanted, and how it goes on. -/
def stepK (i : I) (σ : St) (K : V → St → Prop) : Prop := (insW emp i [] σ K).getD False
def pureK (o : Option (Prop × V)) (σ : St) (K : V → St → Prop) : Prop :=
 match o with
 | some (p, x) => p ∧ K x σ
 | none => False
def guardK (v : V) (want : Bool) (A B : Prop) : Prop :=
 match v with
 | .bool b => (b = want → A) ∧ (b ≠ want → B)
 | .tup [] => B
 | _ => False
/-- An instruction behind its guard. -/
def stepG (Γ : St) (g : GI) (T : Ts) (σ : St) (K : V → St → Prop) : Prop :=
 match g.g with
 | none => stepK (g.i.sub (ev Γ T)) σ K
 | some (t, want) => guardK (look T t) want (stepK (g.i.sub (ev Γ T)) σ K) (K (.tup []) σ)
theorem stepG_none {d : Option Nat} {i : I} {K : V → St → Prop} : stepG Γ ⟨d, none, i⟩ T σ K = stepK (i.sub (ev Γ T)) σ K := rfl
theorem stepG_some {d : Option Nat} {t : Nat} {want : Bool} {i : I} {K : V → St → Prop} : stepG Γ ⟨d, some (t, want), i⟩ T σ K = guardK (look T t) want (stepK (i.sub (ev Γ T)) σ K) (K (.tup []) σ) := rfl
theorem guardK_tt {A B : Prop} : guardK (.bool true) true A B = A := by simp [guardK]
theorem guardK_ff {A B : Prop} : guardK (.bool false) false A B = A := by simp [guardK]
theorem guardK_tf {A B : Prop} : guardK (.bool true) false A B = B := by simp [guardK]
theorem guardK_ft {A B : Prop} : guardK (.bool false) true A B = B := by simp [guardK]
theorem guardK_un {want : Bool} {A B : Prop} : guardK (.tup []) want A B = B := rfl
theorem guardK_of {b want : Bool} {A B : Prop} (h1 : b = true → guardK (.bool true) want A B) (h2 : b = false → guardK (.bool false) want A B) : guardK (.bool b) want A B := by
 cases b
 ·exact h2 rfl
 ·exact h1 rfl

theorem insW_pure {i : I} {K : V → St → Prop} {p : Prop} (hw : i.wri = false) (hi : insW Γ i T σ K = some p) (hp : p) : ∃ q x, pureI σ (ev Γ T) i = some (q, x) ∧ q ∧ K x σ := by
 cases i with
 | load ag m a =>
  simp only [insW] at hi
  split at hi
  ·rename_i b off hb
   obtain rfl := Option.some.inj hi
   obtain ⟨cs, hcs, hr⟩ := hp
   obtain ⟨x, h1, h2, h3, rfl⟩ := rdW_mono hr
   exact ⟨off + m ≤ cs.length ∧ (ag = false → m = 1), _, by simp only [pureI, hb, hcs], ⟨h1, h2⟩, h3⟩
  ·rename_i cs hb
   obtain rfl := Option.some.inj hi
   obtain ⟨x, h1, h2, h3, rfl⟩ := rdW_mono hp
   exact ⟨m ≤ cs.length ∧ (ag = false → m = 1), bif ag then .agg (cs.take m) else cs.getD 0 .undef, by simp only [pureI, hb], ⟨by omega, h2⟩, by simpa using h3⟩
  ·obtain rfl := Option.some.inj hi; exact hp.elim
 | iaddr es x j =>
  simp only [insW] at hi
  split at hi
  ·rename_i ex es' xs kk m h1 h2
   obtain rfl := Option.some.inj hi
   obtain ⟨h0, y, hy, he, h3⟩ := hp
   have hlt := (List.getElem?_eq_some_iff.1 hy).1
   have hgd : xs.getD m.toNat .undef = y := by simp [List.getD, hy]
   exact ⟨0 ≤ m ∧ m < xs.length ∧ es' = es, .iptr y.cells, by simp only [pureI, h1, h2, hgd], ⟨h0, by omega, he⟩, h3⟩
  ·rename_i b es' off len cap kk m h1 h2
   obtain rfl := Option.some.inj hi
   obtain ⟨h0, hl, he, h3⟩ := hp
   exact ⟨0 ≤ m ∧ m < len ∧ es' = es, _, by simp only [pureI, h1, h2], ⟨h0, hl, he⟩, h3⟩
  ·obtain rfl := Option.some.inj hi; exact hp.elim
 | idxs x j =>
  simp only [insW] at hi
  split at hi
  ·rename_i s kk m h1 h2
   obtain rfl := Option.some.inj hi
   obtain ⟨h0, c, hc, h3⟩ := hp
   have hlt := (List.getElem?_eq_some_iff.1 hc).1
   have hgd : s.getD m.toNat 0 = c := by simp [List.getD, hc]
   exact ⟨0 ≤ m ∧ m < s.length, .int .u8 (c.toNat : Int), by simp only [pureI, h1, h2, hgd], ⟨h0, by omega⟩, h3⟩
  ·obtain rfl := Option.some.inj hi; exact hp.elim
 | store m a x => simp [I.wri] at hw
 | _ =>
  simp only [insW] at hi
  split at hi
  ·rename_i q x h1
   obtain rfl := Option.some.inj hi
   exact ⟨q, x, h1, hp.1, hp.2⟩
  ·cases hi

theorem guard_true {g : GI} {t : Nat} {want : Bool} (hg : g.g = some (t, want)) {b : Bool} (hb : look T t = .bool b) : guardV Γ T g = some (b == want) := by simp only [guardV, hg, hb]
theorem stepG_read {g : GI} {K : V → St → Prop} (hw : g.i.wri = false) (h : stepG Γ g T σ K) : ∃ x, RdF Γ σ T g x ∧ K x σ := by
 have main : stepK (g.i.sub (ev Γ T)) σ K → ∃ q x, pureI σ (ev Γ T) g.i = some (q, x) ∧ q ∧ K x σ := by
  intro h
  unfold stepK at h
  rw [insW_sub] at h
  cases hi : insW Γ g.i T σ K with
  | none => rw [hi] at h; exact h.elim
  | some p => rw [hi] at h; exact insW_pure hw hi h
 unfold stepG at h
 split at h
 ·rename_i hg
  obtain ⟨q, x, h1, h2, h3⟩ := main h
  exact ⟨x, .inr ⟨by simp only [guardV, hg], q, h1, h2⟩, h3⟩
 ·rename_i t want hg
  unfold guardK at h
  split at h
  ·rename_i b hb
   by_cases he : b = want
   ·obtain ⟨q, x, h1, h2, h3⟩ := main (h.1 he)
    exact ⟨x, .inr ⟨by rw [guard_true hg hb]; simp [he], q, h1, h2⟩, h3⟩
   ·exact ⟨.tup [], .inl ⟨by rw [guard_true hg hb]; simp [he], rfl⟩, h.2 he⟩
  ·rename_i hb
   exact ⟨.tup [], .inl ⟨by simp only [guardV, hg, hb], rfl⟩, h⟩
  ·exact h.elim

/-- A store, or what only reads, where operands are the same. -/
theorem stepG_write {g : GI} {K : V → St → Prop} (h : stepG Γ g T σ K) : WrF P Γ σ T g K := by
 have main : stepK (g.i.sub (ev Γ T)) σ K → ∀ T', (∀ t ∈ g.tmps, look T' t = look T t) → InsOK P Γ g.i T' σ K := by
  intro h T' hT
  have hsub := sub_congr (e := ev Γ T') (e' := ev Γ T) g.i (ev_congr hT)
  unfold stepK at h
  rw [← hsub, insW_sub] at h
  cases hi : insW Γ g.i T' σ K with
  | none => rw [hi] at h; exact h.elim
  | some p =>
   rw [hi] at h
   have h : p := h
   by_cases hst : ∃ m a x, g.i = .store m a x
   ·obtain ⟨m, a, x, he⟩ := hst
    rw [he] at hi ⊢
    simp only [insW] at hi
    split at hi
    ·rename_i b off hb
     obtain rfl := Option.some.inj hi
     obtain ⟨cs, hcs, h1, h2, h3, h4⟩ := h
     exact InsOK.store hb hcs h1 h2 h3 h4
    ·obtain rfl := Option.some.inj hi; exact h.elim
   ·have hw : ∃ q x, pureI σ (ev Γ T') g.i = some (q, x) ∧ q ∧ K x σ := by
     by_cases hwr : g.i.wri = false
     ·exact insW_pure hwr hi h
     ·exfalso
      generalize g.i = i at *
      cases i <;> simp only [I.wri, not_true_eq_false, Bool.true_eq_false, not_false_eq_true, Bool.false_eq_true] at hwr <;> first | (simp only [insW, pureI] at hi; cases hi; done) | exact hst ⟨_, _, _, rfl⟩
    obtain ⟨q, x, h1, h2, h3⟩ := hw
    exact InsOK.pure h1 h2 h3
 unfold stepG at h
 split at h
 ·rename_i hg
  exact .inr ⟨by simp only [guardV, hg], main h⟩
 ·rename_i t want hg
  unfold guardK at h
  split at h
  ·rename_i b hb
   by_cases he : b = want
   ·exact .inr ⟨by rw [guard_true hg hb]; simp [he], main (h.1 he)⟩
   ·exact .inl ⟨by rw [guard_true hg hb]; simp [he], h.2 he⟩
  ·rename_i hb
   exact .inl ⟨by simp only [guardV, hg, hb], h⟩
  ·exact h.elim

/-- Does a part only read? -/
def roD : DT → Bool
 | .nil => true
 | .rd g r => !g.i.wri && roD r
 | _ => false
/-- Is a part one that writes, alone? -/
def oneD : DT → Bool
 | .wr _ .nil .no => true
 | _ => false
/-- The rest of a region that draws. -/
def DRun (P : Program) (Γ : St) (f : FuncId) (n : Nat) (Q : V → St → Prop) (segs : List DT) (k : List It) (T : Ts) (σ : St) : Prop := DWs P Γ segs T σ fun T s => SRun P Γ f n k T s Q
def DR (Γ : St) (σ : St) : DT → Ts → (Ts → Prop) → Prop
 | .nil, T, K => K T
 | .rd g r, T, K => stepG Γ g T σ fun x _ => DR Γ σ r (putT T g.d x) K
 | _, _, _ => False
theorem DR_nil {K : Ts → Prop} : DR Γ σ .nil T K = K T := rfl
theorem DR_rd {g : GI} {r : DT} {K : Ts → Prop} : DR Γ σ (.rd g r) T K = stepG Γ g T σ fun x _ => DR Γ σ r (putT T g.d x) K := rfl

theorem cup_emp_left (σ : St) : cup emp σ = σ := rfl
theorem disj_emp_left (σ : St) : disj emp σ := fun _ => .inl rfl
theorem DR.ds : ∀ {t : DT} {T : Ts} {K : Ts → Prop}, roD t = true → DR Γ σ t T K → DS P Γ σ t T emp fun T s => s = emp ∧ K T := by
 intro t
 induction t with
 | nil => intro T K _ h; exact ⟨rfl, h⟩
 | rd g r ih =>
  intro T K hr h
  simp only [roD, Bool.and_eq_true, Bool.not_eq_true'] at hr
  obtain ⟨x, h1, h2⟩ := stepG_read hr.1 h
  exact ⟨x, h1, ih hr.2 h2⟩
 | wr g r alt => intro T K hr; simp [roD] at hr
 | no => intro T K hr; simp [roD] at hr
theorem DS.mono {σr : St} : ∀ {t : DT} {T : Ts} {s : St} {K K' : Ts → St → Prop}, (∀ T s, K T s → K' T s) → DS P Γ σr t T s K → DS P Γ σr t T s K' := by
 intro t
 induction t with
 | nil => intro T s K K' h h1; exact h _ _ h1
 | rd g r ih => intro T s K K' h ⟨x, h1, h2⟩; exact ⟨x, h1, ih h h2⟩
 | wr g r alt ih1 ih2 => intro T s K K' h ⟨⟨G, h1, h2⟩, h3⟩; exact ⟨⟨G, h1, fun x s hG hd => ih1 h (h2 x s hG hd)⟩, ih2 h h3⟩
 | no => intro T s K K' _ _; trivial

theorem DRun.nil (h : W P Γ f n Q k T σ) : DRun P Γ f n Q [] k T σ := h.sound
theorem DRun.ro {t : DT} {segs : List DT} (hr : roD t = true) (h : DR Γ σ t T fun T => DRun P Γ f n Q segs k T σ) : DRun P Γ f n Q (t :: segs) k T σ :=
 ⟨emp, σ, disj_emp_left σ, rfl, DS.mono (fun T s h => by obtain ⟨rfl, h⟩ := h; exact h) (DR.ds hr h)⟩
theorem DRun.wr1 {g : GI} {segs : List DT} {G : V → St → Prop} (hg : WrF P Γ σ T g G) (h : ∀ x s, G x s → DRun P Γ f n Q segs k (putT T g.d x) s) : DRun P Γ f n Q (.wr g .nil .no :: segs) k T σ :=
 ⟨σ, emp, disj_emp σ, (cup_emp σ).symm, ⟨G, .inl hg, fun x s hG _ => by simp only [DS]; rw [cup_emp]; exact h x s hG⟩, trivial⟩
theorem DRun.start {segs : List DT} (h : DRun P Γ f n Q segs k T σ) : SRun P Γ f n (.code (.draw segs) :: k) T σ Q := SRun.draw h fun _ _ h => h

/-- The parts that simp takes: what only reads, and stores. -/
def WD (P : Program) (Γ : St) (f : FuncId) (n : Nat) (Q : V → St → Prop) (k : List It) : List DT → Ts → St → Prop
 | [], T, σ => W P Γ f n Q k T σ
 | t :: r, T, σ => bif roD t then DR Γ σ t T fun T => WD P Γ f n Q k r T σ else
  match t with
  | .wr ⟨d, g, .store m a x⟩ .nil .no => stepG Γ ⟨d, g, .store m a x⟩ T σ fun y s => WD P Γ f n Q k r (putT T d y) s
  | t => DRun P Γ f n Q (t :: r) k T σ
theorem DR.mono {σ : St} : ∀ {t : DT} {T : Ts} {K K' : Ts → Prop}, roD t = true → (∀ T, K T → K' T) → DR Γ σ t T K → DR Γ σ t T K' := by
 intro t
 induction t with
 | nil => intro T K K' _ h h1; exact h _ h1
 | rd g r ih =>
  intro T K K' hr h h1
  simp only [roD, Bool.and_eq_true, Bool.not_eq_true'] at hr
  have mono : ∀ {i : I} {A B : V → St → Prop}, i.wri = false → (∀ x s, A x s → B x s) → stepK (i.sub (ev Γ T)) σ A → stepK (i.sub (ev Γ T)) σ B := by
   intro i A B hw hAB h
   unfold stepK at h ⊢
   rw [insW_sub] at h ⊢
   cases i <;> simp only [insW] at h ⊢ <;> first | (simp [I.wri] at hw; done) | skip
   case load ag m a =>
    split at h
    ·obtain ⟨cs, h1, h2⟩ := h
     refine ⟨cs, h1, ?_⟩
     cases ag with
     | true => exact ⟨h2.1, hAB _ _ h2.2⟩
     | false => obtain ⟨h3, x, h4, h5⟩ := h2; exact ⟨h3, x, h4, hAB _ _ h5⟩
    ·cases ag with
     | true => exact ⟨h.1, hAB _ _ h.2⟩
     | false => obtain ⟨h3, x, h4, h5⟩ := h; exact ⟨h3, x, h4, hAB _ _ h5⟩
    ·exact h
   case iaddr es x j =>
    split at h
    ·obtain ⟨h1, y, h2, h3, h4⟩ := h; exact ⟨h1, y, h2, h3, hAB _ _ h4⟩
    ·obtain ⟨h1, h2, h3, h4⟩ := h; exact ⟨h1, h2, h3, hAB _ _ h4⟩
    ·exact h
   case idxs x j =>
    split at h
    ·obtain ⟨h1, y, h2, h3⟩ := h; exact ⟨h1, y, h2, hAB _ _ h3⟩
    ·exact h
   all_goals
    split at h
    ·exact ⟨h.1, hAB _ _ h.2⟩
    ·exact h
  have hm : stepG Γ g T σ (fun x _ => DR Γ σ r (putT T g.d x) K) → stepG Γ g T σ (fun x _ => DR Γ σ r (putT T g.d x) K') := by
   intro h2
   unfold stepG at h2 ⊢
   split at h2
   ·exact mono hr.1 (fun x _ h => ih hr.2 ‹_› h) h2
   ·unfold guardK at h2 ⊢
    split at h2
    ·exact ⟨fun e => mono hr.1 (fun x _ h => ih hr.2 ‹_› h) (h2.1 e), fun e => ih hr.2 ‹_› (h2.2 e)⟩
    ·exact ih hr.2 ‹_› h2
    ·exact h2
  exact hm h1
 | wr g r alt => intro T K K' hr; simp [roD] at hr
 | no => intro T K K' hr; simp [roD] at hr
theorem WD.sound : ∀ {segs : List DT} {T : Ts} {σ : St}, WD P Γ f n Q k segs T σ → DRun P Γ f n Q segs k T σ := by
 intro segs
 induction segs with
 | nil => intro T σ h; exact DRun.nil h
 | cons t r ih =>
  intro T σ h
  unfold WD at h
  cases hr : roD t with
  | true =>
   rw [hr] at h
   exact DRun.ro hr (DR.mono hr (fun T h => ih h) h)
  | false =>
   rw [hr] at h
   simp only [cond_false] at h
   split at h
   ·exact DRun.wr1 (stepG_write h) fun x s h => ih h
   ·exact h
theorem WD_nil : WD P Γ f n Q k [] T σ = W P Γ f n Q k T σ := rfl
theorem WD_rd {g : GI} {t : DT} {r : List DT} : WD P Γ f n Q k (.rd g t :: r) T σ = bif roD (.rd g t) then DR Γ σ (.rd g t) T fun T => WD P Γ f n Q k r T σ else DRun P Γ f n Q (.rd g t :: r) k T σ := by
 cases r <;> rfl
theorem WD_store {d : Option Nat} {g : Option (Nat × Bool)} {m : Nat} {a x : Opd} {r : List DT} : WD P Γ f n Q k (.wr ⟨d, g, .store m a x⟩ .nil .no :: r) T σ = stepG Γ ⟨d, g, .store m a x⟩ T σ fun y s => WD P Γ f n Q k r (putT T d y) s := by rw [WD]; rfl
theorem SRun.drawW {segs : List DT} (h : WD P Γ f n Q k segs T σ) : SRun P Γ f n (.code (.draw segs) :: k) T σ Q := DRun.start (WD.sound h)
/-- One that writes, alone, where simp stands still. -/
theorem DRun.w1 {d : Option Nat} {i : I} {segs : List DT} {G : V → St → Prop} (hg : ∀ T', (∀ t ∈ GI.tmps ⟨d, none, i⟩, look T' t = look T t) → InsOK P Γ i T' σ G) (h : ∀ x s, G x s → WD P Γ f n Q k segs (putT T d x) s) : DRun P Γ f n Q (.wr ⟨d, none, i⟩ .nil .no :: segs) k T σ :=
 DRun.wr1 (.inr ⟨rfl, hg⟩) fun x s hG => (h x s hG).sound

section
variable {K : V → St → Prop}
theorem stepK_pure {i' : I} (h : ∀ K, insW emp i' [] σ K = match pureI σ (ev emp []) i' with | some (p, x) => some (p ∧ K x σ) | none => none) :
  stepK i' σ K = pureK (pureI σ (ev emp []) i') σ K := by
 unfold stepK pureK
 rw [h]
 cases pureI σ (ev emp []) i' with
 | none => rfl
 | some q => rfl
theorem stepK_mv (x : V) : stepK (.mv (.c x)) σ K = K x σ := by
 simp [stepK, pureK, insW, pureI, ev, rdW, and_assoc]
theorem stepK_pick (t : Bool) (x y : V) : stepK (.pick (.c (.bool t)) (.c x) (.c y)) σ K = K (bif t then x else y) σ := by
 simp [stepK, pureK, insW, pureI, ev, rdW, and_assoc]
theorem stepK_build (z : List V) (ps : List (Nat × Nat × Opd)) : stepK (.build z ps) σ K = (fillOK (ev emp []) z.length ps ∧ (∀ c ∈ z, c.one = true) ∧ K (.agg (fillV (ev emp []) z ps)) σ) := by
 simp [stepK, pureK, insW, pureI, ev, rdW, and_assoc]
theorem stepK_bsl (es m : Nat) (zv : V) (ps : List (Nat × Opd)) : stepK (.bsl es m zv ps) σ K = (rowOK (ev emp []) es m ps ∧ zv.cells.length = es ∧ (∀ c ∈ zv.cells, c.one = true) ∧ K (.isl true es (rowV (ev emp []) (List.replicate m zv) ps)) σ) := by
 simp [stepK, pureK, insW, pureI, ev, rdW, and_assoc]
theorem stepK_nilck_ptr (b off : Nat) : stepK (.nilck (.c (.ptr b off))) σ K = K (.ptr b off) σ := by
 simp [stepK, pureK, insW, pureI, ev, rdW, and_assoc]
theorem stepK_nilck_iptr (cs : List V) : stepK (.nilck (.c (.iptr cs))) σ K = K (.iptr cs) σ := by
 simp [stepK, pureK, insW, pureI, ev, rdW, and_assoc]
theorem stepK_nilck_fn (g : FuncId) (cs : List V) : stepK (.nilck (.c (.fn g cs))) σ K = K (.fn g cs) σ := by
 simp [stepK, pureK, insW, pureI, ev, rdW, and_assoc]
theorem stepK_bin (op : BinOp) (x y : Opd) : stepK (.bin op x y) σ K = pureK (binV op (ev emp [] x) (ev emp [] y)) σ K := stepK_pure (fun K => rfl)
theorem stepK_eqb (neg : Bool) (x y : Bool) : stepK (.eqb neg (.c (.bool x)) (.c (.bool y))) σ K = K (.bool (bif neg then !(x == y) else x == y)) σ := by
 simp [stepK, pureK, insW, pureI, ev, rdW, and_assoc]
theorem stepK_eqp (neg : Bool) (x y : Opd) : stepK (.eqp neg x y) σ K = pureK (pureI σ (ev emp []) (.eqp neg x y)) σ K := stepK_pure (fun K => rfl)
theorem stepK_eqa (neg : Bool) (ks : List Nat) (x y : Opd) : stepK (.eqa neg ks x y) σ K = pureK (pureI σ (ev emp []) (.eqa neg ks x y)) σ K := stepK_pure (fun K => rfl)
theorem stepK_un (op : UnOp) (x : Opd) : stepK (.un op x) σ K = pureK (pureI σ (ev emp []) (.un op x)) σ K := stepK_pure (fun K => rfl)
theorem stepK_i2i (kk k2 : IntKind) (m : Int) : stepK (.i2i kk (.c (.int k2 m))) σ K = K (.int kk (kk.wrap m)) σ := by
 simp [stepK, pureK, insW, pureI, ev, rdW, and_assoc]
theorem stepK_mkfn (g : FuncId) (cs : List Opd) : stepK (.mkfn g cs) σ K = K (.fn g (cs.map (ev emp []))) σ := by
 simp [stepK, pureK, insW, pureI, ev, rdW, and_assoc]
theorem stepK_sl (es : Nat) (x : Opd) (lo hi m3 : Option Opd) : stepK (.sl es x lo hi m3) σ K = pureK (pureI σ (ev emp []) (.sl es x lo hi m3)) σ K := stepK_pure (fun K => rfl)
theorem stepK_sls (x : Opd) (lo hi : Option Opd) : stepK (.sls x lo hi) σ K = pureK (pureI σ (ev emp []) (.sls x lo hi)) σ K := stepK_pure (fun K => rfl)
theorem stepK_faddr_ptr (o b off : Nat) : stepK (.faddr o (.c (.ptr b off))) σ K = K (.ptr b (off + o)) σ := by
 simp [stepK, pureK, insW, pureI, ev, rdW, and_assoc]
theorem stepK_faddr_iptr (o : Nat) (cs : List V) : stepK (.faddr o (.c (.iptr cs))) σ K = K (.iptr (cs.drop o)) σ := by
 simp [stepK, pureK, insW, pureI, ev, rdW, and_assoc]
theorem stepK_field (ag : Bool) (off m : Nat) (x : Opd) : stepK (.field ag off m x) σ K = pureK (pureI σ (ev emp []) (.field ag off m x)) σ K := stepK_pure (fun K => rfl)
theorem stepK_iaddrA (es m : Nat) (x j : Opd) : stepK (.iaddrA es m x j) σ K = pureK (pureI σ (ev emp []) (.iaddrA es m x j)) σ K := stepK_pure (fun K => rfl)
theorem stepK_idxA (ag : Bool) (es m : Nat) (x j : Opd) : stepK (.idxA ag es m x j) σ K = pureK (pureI σ (ev emp []) (.idxA ag es m x j)) σ K := stepK_pure (fun K => rfl)
theorem stepK_ext_ex (vs : List V) (m : Nat) : stepK (.ext (.c (.tup vs)) m) σ K = (m < vs.length ∧ K (vs.getD m .undef) σ) := by
 simp [stepK, pureK, insW, pureI, ev, rdW, and_assoc]
theorem stepK_len_isl (ex : Bool) (es : Nat) (xs : List V) : stepK (.len (.c (.isl ex es xs))) σ K = K (.int .i64 xs.length) σ := by
 simp [stepK, pureK, insW, pureI, ev, rdW, and_assoc]
theorem stepK_len_msl (b es off m cap : Nat) : stepK (.len (.c (.msl b es off m cap))) σ K = K (.int .i64 m) σ := by
 simp [stepK, pureK, insW, pureI, ev, rdW, and_assoc]
theorem stepK_lens (s : List UInt8) : stepK (.lens (.c (.str s))) σ K = K (.int .i64 s.length) σ := by
 simp [stepK, pureK, insW, pureI, ev, rdW, and_assoc]
theorem stepK_cap (x : Opd) : stepK (.cap x) σ K = pureK (pureI σ (ev emp []) (.cap x)) σ K := stepK_pure (fun K => rfl)
theorem stepK_mx_ex (k1 k2 : IntKind) (a b : Int) : stepK (.mx (.c (.int k1 a)) (.c (.int k2 b))) σ K = (k1 = k2 ∧ K (.int k1 (if b > a then b else a)) σ) := by
 simp [stepK, pureK, insW, pureI, ev, rdW, and_assoc]
theorem stepK_mn_ex (k1 k2 : IntKind) (a b : Int) : stepK (.mn (.c (.int k1 a)) (.c (.int k2 b))) σ K = (k1 = k2 ∧ K (.int k1 (if b < a then b else a)) σ) := by
 simp [stepK, pureK, insW, pureI, ev, rdW, and_assoc]
theorem stepK_load1_ex (m b off : Nat) : stepK (.load false m (.c (.ptr b off))) σ K = ∃ cs, σ b = some cs ∧ m = 1 ∧ ∃ x, cs[off]? = some x ∧ K x σ := by
 simp [stepK, pureK, insW, pureI, ev, rdW, and_assoc]
theorem stepK_loadA_ex (m b off : Nat) : stepK (.load true m (.c (.ptr b off))) σ K = ∃ cs, σ b = some cs ∧ off + m ≤ cs.length ∧ K (.agg ((cs.drop off).take m)) σ := by
 simp [stepK, pureK, insW, pureI, ev, rdW, and_assoc]
theorem stepK_loadi1_ex (m : Nat) (cs : List V) : stepK (.load false m (.c (.iptr cs))) σ K = (m = 1 ∧ ∃ x, cs[0]? = some x ∧ K x σ) := by
 simp [stepK, pureK, insW, pureI, ev, rdW, and_assoc]
theorem stepK_loadiA_ex (m : Nat) (cs : List V) : stepK (.load true m (.c (.iptr cs))) σ K = (m ≤ cs.length ∧ K (.agg (cs.take m)) σ) := by
 simp [stepK, pureK, insW, pureI, ev, rdW, and_assoc]
theorem stepK_iaddr_isl_ex (es es' : Nat) (ex : Bool) (xs : List V) (kk : IntKind) (m : Int) : stepK (.iaddr es (.c (.isl ex es' xs)) (.c (.int kk m))) σ K = (0 ≤ m ∧ ∃ y, xs[m.toNat]? = some y ∧ es' = es ∧ K (.iptr y.cells) σ) := by
 simp [stepK, pureK, insW, pureI, ev, rdW, and_assoc]
theorem stepK_iaddr_msl_ex (es es' b off len cap : Nat) (kk : IntKind) (m : Int) : stepK (.iaddr es (.c (.msl b es' off len cap)) (.c (.int kk m))) σ K = (0 ≤ m ∧ m < len ∧ es' = es ∧ K (.ptr b (off + m.toNat * es)) σ) := by
 simp [stepK, pureK, insW, pureI, ev, rdW, and_assoc]
theorem stepK_idxs_ex (s : List UInt8) (kk : IntKind) (m : Int) : stepK (.idxs (.c (.str s)) (.c (.int kk m))) σ K = (0 ≤ m ∧ ∃ c, s[m.toNat]? = some c ∧ K (.int .u8 (c.toNat : Int)) σ) := by
 simp [stepK, pureK, insW, pureI, ev, rdW, and_assoc]
theorem stepK_store_ex (m b off : Nat) (x : V) : stepK (.store m (.c (.ptr b off)) (.c x)) σ K = ∃ cs, σ b = some cs ∧ x.cells.length = m ∧ (∀ c ∈ x.cells, c.one = true) ∧ off + m ≤ cs.length ∧ K .undef (upd σ b (sets cs off x.cells)) := by
 simp [stepK, pureK, insW, pureI, ev, rdW, and_assoc]
theorem stepK_load1 (b off : Nat) : stepK (.load false 1 (.c (.ptr b off))) σ K = (match σ b with | some cs => (match cs[off]? with | some x => K x σ | none => False) | none => False) := by
 rw [stepK_load1_ex]
 cases σ b with
 | none => simp
 | some cs => cases h : cs[off]? <;> simp [h]
theorem stepK_loadA (m b off : Nat) : stepK (.load true m (.c (.ptr b off))) σ K = (match σ b with | some cs => if off + m ≤ cs.length then K (.agg ((cs.drop off).take m)) σ else False | none => False) := by
 rw [stepK_loadA_ex]
 cases σ b <;> simp
theorem stepK_loadi1 (cs : List V) : stepK (.load false 1 (.c (.iptr cs))) σ K = (match cs[0]? with | some x => K x σ | none => False) := by
 rw [stepK_loadi1_ex]
 cases h : cs[0]? <;> simp [h]
theorem stepK_loadiA (m : Nat) (cs : List V) : stepK (.load true m (.c (.iptr cs))) σ K = if m ≤ cs.length then K (.agg (cs.take m)) σ else False := by
 rw [stepK_loadiA_ex]; simp
theorem stepK_iaddr_isl (es es' : Nat) (ex : Bool) (xs : List V) (kk : IntKind) (m : Int) : stepK (.iaddr es (.c (.isl ex es' xs)) (.c (.int kk m))) σ K = if 0 ≤ m then (match xs[m.toNat]? with | some y => if es' = es then K (.iptr y.cells) σ else False | none => False) else False := by
 rw [stepK_iaddr_isl_ex]
 by_cases h : 0 ≤ m
 ·cases h2 : xs[m.toNat]? <;> simp [h, h2]
 ·simp [h]
theorem stepK_iaddr_msl (es es' b off len cap : Nat) (kk : IntKind) (m : Int) : stepK (.iaddr es (.c (.msl b es' off len cap)) (.c (.int kk m))) σ K = if 0 ≤ m then if m < len then if es' = es then K (.ptr b (off + m.toNat * es)) σ else False else False else False := by
 rw [stepK_iaddr_msl_ex]; simp
theorem stepK_idxs (s : List UInt8) (kk : IntKind) (m : Int) : stepK (.idxs (.c (.str s)) (.c (.int kk m))) σ K = if 0 ≤ m then (match s[m.toNat]? with | some c => K (.int .u8 (c.toNat : Int)) σ | none => False) else False := by
 rw [stepK_idxs_ex]
 by_cases h : 0 ≤ m
 ·cases h2 : s[m.toNat]? <;> simp [h, h2]
 ·simp [h]
theorem stepK_store (m b off : Nat) (x : V) : stepK (.store m (.c (.ptr b off)) (.c x)) σ K = (match σ b with | some cs => if x.cells.length = m then if (∀ c ∈ x.cells, c.one = true) then if off + m ≤ cs.length then K .undef (upd σ b (sets cs off x.cells)) else False else False else False | none => False) := by
 rw [stepK_store_ex]
 cases σ b <;> simp
theorem stepK_ext (vs : List V) (m : Nat) : stepK (.ext (.c (.tup vs)) m) σ K = if m < vs.length then K (vs.getD m .undef) σ else False := by
 rw [stepK_ext_ex]; simp
theorem stepK_mx (k1 : IntKind) (a b : Int) : stepK (.mx (.c (.int k1 a)) (.c (.int k1 b))) σ K = K (.int k1 (if b > a then b else a)) σ := by
 rw [stepK_mx_ex]; simp
theorem stepK_mn (k1 : IntKind) (a b : Int) : stepK (.mn (.c (.int k1 a)) (.c (.int k1 b))) σ K = K (.int k1 (if b < a then b else a)) σ := by
 rw [stepK_mn_ex]; simp
end

/-- A contract that is told anew: blocks are given up, values are told as what stays of them. -/
theorem ACalls.conv {args : List V} {Q' : V → St → Prop} (h : ACalls P Γ f args σ Q) (hq : ∀ r s, Q r s → ∃ r' s', Conv s r s' r' ∧ Q' r' s') : ACalls P Γ f args σ Q' := by
 refine ⟨h.1, fun τ w cargs h1 h2 h3 h4 => (h.2 τ w cargs h1 h2 h3 h4).mono ?_⟩
 rintro e w' ⟨r, v, s, rfl, hQ, p1, p2, p3, p4⟩
 obtain ⟨r', s', hcv, hQ'⟩ := hq r s hQ
 have hdj : disj s' τ := by
  intro m
  cases hm : s' m with
  | none => exact .inl rfl
  | some c => exact .inr (p1.other (hcv.1 m c hm))
 have hle : ∀ b cs, cup s' τ b = some cs → cup s τ b = some cs := by
  intro b cs hb
  unfold cup at *
  cases hm : s' b with
  | none =>
   rw [hm] at hb
   have := p1.symm_none hb
   rw [this]; exact hb
  | some c => rw [hm] at hb; rw [hcv.1 b c hm]; exact hb
 refine ⟨r', v, s', rfl, hQ', hdj, p2.less hle, hcv.2.rep p2 p1 hcv.1 p3, p4.less ?_⟩
 intro m hm
 unfold own at *
 obtain ⟨c, hc⟩ := Option.isSome_iff_exists.1 hm
 rw [hle m c hc]; rfl
/-- What is owned beside stays. -/
theorem ACalls.frame {args : List V} {τ : St} (hd : disj σ τ) (h : ACalls P Γ f args σ Q) : ACalls P Γ f args (cup σ τ) fun r s => ∃ s', s = cup s' τ ∧ disj s' τ ∧ Q r s' := by
 refine ⟨h.1, fun υ w cargs h1 h2 h3 h4 => ?_⟩
 have hd2 : disj τ υ := by
  intro n
  have h1 := h1 n; have h2 := hd n
  unfold cup at h1
  cases ha : σ n with
  | none => rw [ha] at h1; exact h1
  | some x => rw [ha] at h2; simp at h2; exact .inl h2
 refine (h.2 (cup τ υ) w cargs (disj_cup_left h1 hd) (by rw [← cup_assoc]; exact h2) (by rw [← cup_assoc]; exact h3) (by rw [← cup_assoc]; exact h4)).mono ?_
 rintro e w' ⟨r, v, s, rfl, hQ, p1, p2, p3, p4⟩
 obtain ⟨h5, h6⟩ := disj_cup_right p1 hd2
 exact ⟨r, v, cup s τ, rfl, ⟨s, rfl, h6, hQ⟩, h5, by rw [cup_assoc]; exact p2, by rw [cup_assoc]; exact p3, by rw [cup_assoc, cup_assoc]; exact p4⟩
/-- A function that owns nothing and gives nothing up, called wherever. -/
theorem Ret.anywhere {args : List V} {r : V} (h : Ret P Γ f args emp r emp) : Ret P Γ f args σ r σ := by
 have := ACalls.frame (disj_emp_left σ) h
 rw [cup_emp_left] at this
 exact ACalls.mono P Γ this fun x s ⟨s', e, _, e1, e2⟩ => ⟨e1, by rw [e, e2]; rfl⟩
end
end Go.Proofs.Ytdenfjbhkdhlkaa.Lg
