/- The own logic: parts that draw, where simp does not look ahead. It holds for every program. -/
import Derived.Test.YtdenfjbhkdhlkaaLgN
namespace Go.Proofs.Ytdenfjbhkdhlkaa.Lg
open Go
variable {P : Program} {Γ : St} {f : FuncId} {n : Nat} {Q : V → St → Prop} {k : List It} {σ σr : St} {T : Ts}
def DRW (P : Program) (Γ : St) (f : FuncId) (n : Nat) (Q : V → St → Prop) (k : List It) (t : DT) (r : List DT) (T : Ts) (σ : St) : Prop := DR Γ σ t T fun T => WD P Γ f n Q k r T σ
def DRWk (P : Program) (Γ : St) (f : FuncId) (n : Nat) (Q : V → St → Prop) (k : List It) (t : DT) (r : List DT) (d : Option Nat) (T : Ts) (σ : St) : V → St → Prop := fun x _ => DRW P Γ f n Q k t r (putT T d x) σ
def WDk (P : Program) (Γ : St) (f : FuncId) (n : Nat) (Q : V → St → Prop) (k : List It) (r : List DT) (d : Option Nat) (T : Ts) : V → St → Prop := fun x s => WD P Γ f n Q k r (putT T d x) s
theorem WD_rdk {g : GI} {t : DT} {r : List DT} : WD P Γ f n Q k (.rd g t :: r) T σ = bif roD (.rd g t) then stepG Γ g T σ (DRWk P Γ f n Q k t r g.d T σ) else DRun P Γ f n Q (.rd g t :: r) k T σ := by
 rw [WD_rd]; rfl
theorem DRW_nil {r : List DT} : DRW P Γ f n Q k .nil r T σ = WD P Γ f n Q k r T σ := rfl
theorem DRW_rd {g : GI} {t : DT} {r : List DT} : DRW P Γ f n Q k (.rd g t) r T σ = stepG Γ g T σ (DRWk P Γ f n Q k t r g.d T σ) := rfl
theorem DRWk_app {t : DT} {r : List DT} {d : Option Nat} {x : V} {s : St} : DRWk P Γ f n Q k t r d T σ x s = DRW P Γ f n Q k t r (putT T d x) σ := rfl
theorem WD_storek {d : Option Nat} {g : Option (Nat × Bool)} {m : Nat} {a x : Opd} {r : List DT} : WD P Γ f n Q k (.wr ⟨d, g, .store m a x⟩ .nil .no :: r) T σ = stepG Γ ⟨d, g, .store m a x⟩ T σ (WDk P Γ f n Q k r d T) := by rw [WD_store]; rfl
theorem WDk_app {r : List DT} {d : Option Nat} {x : V} {s : St} : WDk P Γ f n Q k r d T x s = WD P Γ f n Q k r (putT T d x) s := rfl
def DSWk (P : Program) (Γ σr : St) (r : DT) (d : Option Nat) (T : Ts) (σ : St) (K : Ts → St → Prop) : V → St → Prop := fun x _ => DSW P Γ σr r (putT T d x) σ K
theorem DSW_rdk {g : GI} {r : DT} {K : Ts → St → Prop} : DSW P Γ σr (.rd g r) T σ K = stepG Γ g T σr (DSWk P Γ σr r g.d T σ K) := rfl
theorem DSWk_app {r : DT} {d : Option Nat} {K : Ts → St → Prop} {x : V} {s : St} : DSWk P Γ σr r d T σ K x s = DSW P Γ σr r (putT T d x) σ K := rfl
/-- What a temporary holds: only the test is simplified. -/
def lookIf (c : Bool) (a b : V) : V := bif c then a else b
theorem look_consB (t : Nat) (v : V) (r : Ts) (m : Nat) : look ((t, v) :: r) m = lookIf (t == m) v (look r m) := by
 rw [look_cons]
 by_cases h : t = m
 ·subst h; rw [if_pos rfl, beq_self_eq_true]; rfl
 ·rw [if_neg h, beq_false_of_ne h]; rfl
theorem lookIf_congr {c c' : Bool} {a b : V} (h : c = c') : lookIf c a b = lookIf c' a b := by rw [h]
theorem lookIf_t (a b : V) : lookIf true a b = a := rfl
theorem lookIf_f (a b : V) : lookIf false a b = b := rfl
attribute [congr] lookIf_congr
attribute [go_sem ↓] look_consB lookIf_t lookIf_f
attribute [go_sem] lookIf_t lookIf_f
attribute [go_sem_proc] Nat.reduceBEq
theorem guardK_congr {v v' : V} {w : Bool} {A B : Prop} (h : v = v') : guardK v w A B = guardK v' w A B := by rw [h]
attribute [congr] guardK_congr
/-- What is guarded: its branches hold nothing that simp could visit. -/
def guardR (Γ : St) (v : V) (want : Bool) (i : I) (T : Ts) (σ : St) (K : V → St → Prop) : Prop := guardK v want (stepK (i.sub (ev Γ T)) σ K) (K (.tup []) σ)
theorem stepG_someR {d : Option Nat} {t : Nat} {want : Bool} {i : I} {K : V → St → Prop} : stepG Γ ⟨d, some (t, want), i⟩ T σ K = guardR Γ (look T t) want i T σ K := rfl
theorem guardR_tt {i : I} {K : V → St → Prop} : guardR Γ (.bool true) true i T σ K = stepK (i.sub (ev Γ T)) σ K := guardK_tt
theorem guardR_ff {i : I} {K : V → St → Prop} : guardR Γ (.bool false) false i T σ K = stepK (i.sub (ev Γ T)) σ K := guardK_ff
theorem guardR_tf {i : I} {K : V → St → Prop} : guardR Γ (.bool true) false i T σ K = K (.tup []) σ := guardK_tf
theorem guardR_ft {i : I} {K : V → St → Prop} : guardR Γ (.bool false) true i T σ K = K (.tup []) σ := guardK_ft
theorem guardR_un {want : Bool} {i : I} {K : V → St → Prop} : guardR Γ (.tup []) want i T σ K = K (.tup []) σ := guardK_un
attribute [go_sem ↓] stepG_someR
attribute [go_sem] guardR_tt guardR_ff guardR_tf guardR_ft guardR_un
attribute [go_sem ↓] WD_rdk DRW_nil DRW_rd DRWk_app WD_storek WDk_app DSW_rdk DSWk_app
/-! What is owned stands apart from the rest -/
theorem emp_cup (σ : St) : cup emp σ = σ := by funext n; simp [cup, emp]
theorem ownL_split {σ0 : St} {es : Nat} {xs : List V} {q : V} (h : OwnL σ0 es xs q σ) : ∃ s, OwnL emp es xs q s ∧ disj s σ0 ∧ σ = cup s σ0 := by
 rcases h.1 with ⟨hc, hl, rfl, es', rfl⟩ | ⟨b2, cap, hb, rfl, rfl, h4⟩
 ·exact ⟨emp, ⟨.inl ⟨hc, hl, rfl, es', rfl⟩, h.2⟩, disj_emp_left _, (emp_cup _).symm⟩
 ·refine ⟨upd emp b2 (flat xs), ⟨.inr ⟨b2, cap, rfl, rfl, rfl, h4⟩, h.2⟩, fun n => ?_, (cup_new _ _ _).symm⟩
  by_cases hn : n = b2
  ·subst hn; exact .inr hb
  ·exact .inl (by rw [upd_ne _ _ hn]; rfl)
theorem ownL_join {σ0 s : St} {es : Nat} {xs : List V} {q : V} (h : OwnL emp es xs q s) (hd : disj s σ0) : OwnL σ0 es xs q (cup s σ0) := by
 have := h.cup hd
 rwa [emp_cup] at this
/-- Where what is owned is written, and the rest is read. -/
theorem DRun.mixO {σ0 : St} {es : Nat} {xs : List V} {q : V} {t : DT} {segs : List DT} (h : OwnL σ0 es xs q σ) (hr : rdOK t = true) (hk : ∀ s, OwnL emp es xs q s → DSW P Γ σ0 t T s fun T s' => WD P Γ f n Q k segs T (cup s' σ0)) : DRun P Γ f n Q (t :: segs) k T σ := by
 obtain ⟨s, h1, h2, rfl⟩ := ownL_split h
 exact ⟨s, σ0, h2, rfl, DS.mono (fun T s hw => hw.sound) (DS.of hr (hk s h1))⟩
/-! A function that reads what stands beside what is written, and changes nothing -/
theorem WrA.callB {d : Option Nat} {gd : Option (Nat × Bool)} {x : Opd} {as : List Opd} {g : FuncId} {vs : List V} {G : V → St → Prop} (h : ACalls P Γ g vs (cup σ σr) fun r s => ∃ s', s = cup s' σr ∧ disj s' σr ∧ G r s') (hv : ∃ caps, ev Γ T x = .fn g caps ∧ as.map (ev Γ T) ++ caps = vs) (hg : guardV Γ T ⟨d, gd, .call x as⟩ = some true) : WrA P Γ σr σ T ⟨d, gd, .call x as⟩ G := by
 obtain ⟨caps, h1, h2⟩ := hv
 refine .inr ⟨hg, fun T' hT _ => ?_⟩
 have he := ev_congr (Γ := Γ) (g := ⟨d, gd, .call x as⟩) hT
 refine InsOK.call (by rw [he x (by simp [I.opds])]; exact h1) ?_
 have : as.map (ev Γ T') = as.map (ev Γ T) := List.map_congr_left fun o ho => he o (by simp [I.opds, ho])
 rw [this, h2]; exact h
/-- A call in a part that writes nothing yet, of a function that reads all and changes nothing. -/
theorem DS.callB {K : Ts → St → Prop} {d : Option Nat} {gd : Option (Nat × Bool)} {r' : DT} {x : Opd} {as : List Opd} {g : FuncId} {vs : List V} {v : V} (h : Ret P Γ g vs σr v σr) (hv : ∃ caps, ev Γ T x = .fn g caps ∧ as.map (ev Γ T) ++ caps = vs) (hg : guardV Γ T ⟨d, gd, .call x as⟩ = some true) (hr : rdOK r' = true)
  (hk : DSW P Γ σr r' (putT T d v) emp K) : DS P Γ σr (.wr ⟨d, gd, .call x as⟩ r' .no) T emp K :=
 ⟨⟨fun r s => r = v ∧ s = emp, WrA.callB (by rw [emp_cup]; exact ACalls.mono P Γ h fun r s ⟨e1, e2⟩ => ⟨emp, by rw [emp_cup, e2], disj_emp_left _, e1, rfl⟩) hv hg, fun r s ⟨e1, e2⟩ _ => by subst e1 e2; exact DS.of hr hk⟩, trivial⟩
/-! What every call of simp takes besides -/
attribute [go_sem ↓] if_pos
attribute [go_sem] ne_eq
attribute [go_sem_proc ↓] reduceIte
end Go.Proofs.Ytdenfjbhkdhlkaa.Lg
