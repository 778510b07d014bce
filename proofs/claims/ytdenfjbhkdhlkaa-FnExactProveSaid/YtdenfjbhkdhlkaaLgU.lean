/- The own logic: slices that a function makes and owns. It holds for every program. -/
import Derived.Test.YtdenfjbhkdhlkaaLgT
set_option linter.unusedSimpArgs false
set_option linter.unusedVariables false
namespace Go.Proofs.Ytdenfjbhkdhlkaa.Lg
open Go

/-- A slice that has been made: over 'σ0' it owns one block more, or it is empty. -/
def OwnS (σ0 : St) (es : Nat) (cells : List V) (len : Nat) (r : V) (σ : St) : Prop :=
 (cells = [] ∧ len = 0 ∧ σ = σ0 ∧ ∃ es', r = .isl true es' []) ∨ ∃ b cap, σ0 b = none ∧ r = .msl b es 0 len cap ∧ σ = upd σ0 b cells ∧ cells.length = len * es ∧ len ≤ cap

section
variable {P : Program} {Γ : St} {f : FuncId} {n : Nat} {Q : V → St → Prop} {k : List It} {T : Ts} {σ σ0 : St} {es : Nat} {cells : List V} {len : Nat} {r : V}

theorem OwnS.nil (es es' : Nat) : OwnS σ0 es [] 0 (.isl true es' []) σ0 := .inl ⟨rfl, rfl, rfl, es', rfl⟩
theorem OwnS.get (h : OwnS σ0 es cells len r σ) {b : Nat} {c : List V} (hb : σ0 b = some c) : σ b = some c := by
 rcases h with ⟨_, _, rfl, _⟩ | ⟨b2, cap, h2, _, rfl, _⟩
 ·exact hb
 ·exact le_upd h2 b c hb
theorem OwnS.upd (h : OwnS σ0 es cells len r σ) {b : Nat} {c c' : List V} (hb : σ0 b = some c) : OwnS (upd σ0 b c') es cells len r (upd σ b c') := by
 rcases h with ⟨h1, h2, rfl, h3⟩ | ⟨b2, cap, h2, h3, rfl, h4⟩
 ·exact .inl ⟨h1, h2, rfl, h3⟩
 ·have hne : b2 ≠ b := fun e => by subst e; rw [h2] at hb; cases hb
  exact .inr ⟨b2, cap, by rw [upd_ne _ _ hne]; exact h2, h3, upd_comm _ hne _ _, h4⟩
theorem OwnS.le (h : OwnS σ0 es cells len r σ) : ∀ b c, σ0 b = some c → σ b = some c := fun _ _ hb => h.get hb
theorem OwnS.src (h : OwnS σ0 es cells len r σ) : srcV σ es r = some (cells, len) := by
 rcases h with ⟨rfl, rfl, rfl, es', rfl⟩ | ⟨b2, cap, h2, rfl, rfl, h4⟩
 ·simp [srcV, flat]
 ·simp only [srcV, upd_same, if_true, Nat.zero_add, h4.1, Nat.le_refl, List.drop_zero, List.take_of_length_le (Nat.le_of_eq h4.1)]
/-- What is made is given up. -/
theorem OwnS.conv (h : OwnS σ0 1 cells len r σ) (h1 : ∀ c ∈ cells, c.one = true) : Conv σ r σ0 (.isl false 1 cells) := by
 rcases h with ⟨rfl, rfl, rfl, es', rfl⟩ | ⟨b2, cap, h2, rfl, rfl, h4⟩
 ·exact ⟨fun _ _ h => h, .isl0 _ _ _ _ (fun h => by cases h)⟩
 ·exact ⟨fun b c hb => le_upd h2 b c hb, Frz.row (upd_same _ _ _) h2 (by rw [List.take_of_length_le (by omega)]) (by omega) h1⟩

theorem upd_none {b c : Nat} {x : List V} : upd σ b x c = none ↔ c ≠ b ∧ σ c = none := by
 by_cases h : c = b <;> simp [Lg.upd, h]
theorem OwnS.frz {σ2 σ3 : St} (h : OwnS σ0 1 cells len r σ) (h1 : ∀ c ∈ cells, c.one = true) (h2 : ∀ b, σ0 b = none → σ2 b = σ b) (h3 : ∀ b, σ0 b = none → σ3 b = none) : Frz σ2 σ3 r (.isl false 1 cells) := by
 rcases h with ⟨rfl, rfl, rfl, es', rfl⟩ | ⟨b2, cap, hb, rfl, rfl, h4⟩
 ·exact .isl0 _ _ _ _ (fun h => by cases h)
 ·exact Frz.row (by rw [h2 b2 hb, upd_same]) (h3 b2 hb) (by rw [List.take_of_length_le (by omega)]) (by omega) h1
theorem OwnS.one (h : OwnS σ0 es cells len r σ) : r.cells = [r] ∧ r.one = true := by
 rcases h with ⟨_, _, _, es', rfl⟩ | ⟨b5, cap, _, rfl, _⟩ <;> exact ⟨rfl, rfl⟩
theorem OwnS.drop {b : Nat} {c : List V} (hb : σ0 b = none) (h : OwnS (Lg.upd σ0 b c) es cells len r σ) : ∃ σ2, (∀ d x, σ2 d = some x → σ d = some x) ∧ OwnS σ0 es cells len r σ2 := by
 rcases h with ⟨rfl, rfl, rfl, es', rfl⟩ | ⟨b2, cap, hb2, rfl, rfl, h4⟩
 ·exact ⟨σ0, le_upd hb, OwnS.nil _ _⟩
 ·have hn := upd_none.1 hb2
  refine ⟨Lg.upd σ0 b2 cells, fun d x hd => ?_, .inr ⟨b2, cap, hn.2, rfl, rfl, h4⟩⟩
  by_cases hdb : d = b2
  ·subst hdb; rw [upd_same] at hd ⊢; exact hd
  ·rw [upd_ne _ _ hdb] at hd ⊢; exact le_upd hb _ _ hd
theorem resV_cellA {a nn b : Nat} {cs : List V} (h : look T a = .ptr b 0) (hb : σ b = some cs) (hl : nn = cs.length) : resV [.cell a true nn] T σ = some (.agg cs) := by
 subst hl
 simp [resV, resV1, h, hb]
/-- Something is appended to a slice that is made. -/
theorem InsOK.appO {by_ : Nat} {s x : Opd} {new : List V} {m : Nat} (h : OwnS σ0 es cells len (ev Γ T s) σ) (hsrc : srcV σ es (ev Γ T x) = some (new, m)) (hnl : new.length = m * es) (hfit : (len + m) * by_ ≤ 140737488355328) :
  InsOK P Γ (.app es by_ s x) T σ fun r σ' => OwnS σ0 es (cells ++ new) (len + m) r σ' := by
 generalize hv : ev Γ T s = v at h
 rcases h with ⟨rfl, rfl, rfl, es', rfl⟩ | ⟨b2, cap, h2, rfl, rfl, h4⟩
 ·refine InsOK.app (old := []) (sLen := 0) (by rw [hv]; exact .isl [] es' (.inl rfl)) hsrc hfit (fun b cap hb hcap => ?_) (fun h0 ex es2 xs he => ?_)
  ·rw [hv] at hb ⊢
   exact .inr ⟨b, cap, hb, rfl, rfl, by simpa using hnl, hcap⟩
  ·rw [hv] at he
   injection he with e1 e2 e3
   subst e1 e2 e3 h0
   have : new = [] := List.eq_nil_of_length_eq_zero (by simpa using hnl)
   subst this
   exact OwnS.nil _ _
 ·refine InsOK.app (old := cells) (sLen := len) (by rw [hv]; have := Base.msl (es := es) b2 len cap cells (upd_same σ0 b2 cells) (by omega); rwa [List.take_of_length_le (by omega)] at this) hsrc hfit (fun b cap' hb hcap => ?_) (fun h0 ex es2 xs he => ?_)
  ·rw [hv] at hb ⊢
   simp only [baseDel] at hb ⊢
   rw [del_upd σ0 cells h2] at hb ⊢
   exact .inr ⟨b, cap', hb, rfl, rfl, by rw [List.length_append, h4.1, hnl, Nat.add_mul], hcap⟩
  ·rw [hv] at he; cases he
theorem SRun.appO {d : Option Nat} {l : List GI} {by_ : Nat} {s x : Opd} {new : List V} {m : Nat} (h : OwnS σ0 es cells len (ev Γ T s) σ) (hsrc : srcV σ es (ev Γ T x) = some (new, m)) (hnl : new.length = m * es) (hfit : (len + m) * by_ ≤ 140737488355328)
  (hk : ∀ r σ', OwnS σ0 es (cells ++ new) (len + m) r σ' → W P Γ f n Q (.ops l :: k) (putT T d r) σ') : SRun P Γ f n (.ops (⟨d, none, .app es by_ s x⟩ :: l) :: k) T σ Q :=
 SRun.op rfl (InsOK.appO h hsrc hnl hfit) fun r σ' h => (hk r σ' h).sound

/-! In regions that draw -/
theorem WrF.of {d : Option Nat} {i : I} {G : V → St → Prop} (h : ∀ T', (∀ o ∈ i.opds, ev Γ T' o = ev Γ T o) → InsOK P Γ i T' σ G) : WrF P Γ σ T ⟨d, none, i⟩ G :=
 .inr ⟨rfl, fun T' hT => h T' (ev_congr (g := ⟨d, none, i⟩) hT)⟩
theorem DRun.appO {d : Option Nat} {segs : List DT} {by_ : Nat} {s x : Opd} {new : List V} {m : Nat} (h : OwnS σ0 es cells len (ev Γ T s) σ) (hsrc : srcV σ es (ev Γ T x) = some (new, m)) (hnl : new.length = m * es) (hfit : (len + m) * by_ ≤ 140737488355328)
  (hk : ∀ r σ', OwnS σ0 es (cells ++ new) (len + m) r σ' → WD P Γ f n Q k segs (putT T d r) σ') : DRun P Γ f n Q (.wr ⟨d, none, .app es by_ s x⟩ .nil .no :: segs) k T σ :=
 DRun.wr1 (WrF.of fun T' hT => InsOK.appO (by rw [hT s (by simp [I.opds])]; exact h) (by rw [hT x (by simp [I.opds])]; exact hsrc) hnl hfit) fun r σ' h => (hk r σ' h).sound
theorem WrF.call {d : Option Nat} {x : Opd} {as : List Opd} {g : FuncId} {vs : List V} {G : V → St → Prop} (h : ACalls P Γ g vs σ G) (hv : ∃ caps, ev Γ T x = .fn g caps ∧ as.map (ev Γ T) ++ caps = vs) : WrF P Γ σ T ⟨d, none, .call x as⟩ G := by
 obtain ⟨caps, h1, h2⟩ := hv
 refine WrF.of fun T' hT => InsOK.call (by rw [hT x (by simp [I.opds])]; exact h1) ?_
 have : as.map (ev Γ T') = as.map (ev Γ T) := List.map_congr_left fun o ho => hT o (by simp [I.opds, ho])
 rw [this, h2]; exact h
theorem DRun.callQ {d : Option Nat} {segs : List DT} {x : Opd} {as : List Opd} {g : FuncId} {vs : List V} {G : V → St → Prop} (h : ACalls P Γ g vs σ G) (hv : ∃ caps, ev Γ T x = .fn g caps ∧ as.map (ev Γ T) ++ caps = vs)
  (hk : ∀ r s, G r s → WD P Γ f n Q k segs (putT T d r) s) : DRun P Γ f n Q (.wr ⟨d, none, .call x as⟩ .nil .no :: segs) k T σ :=
 DRun.wr1 (WrF.call h hv) fun r s hG => (hk r s hG).sound
theorem DRun.allocR {d : Option Nat} {segs : List DT} {z : List V} (hk : ∀ b, σ b = none → WD P Γ f n Q k segs (putT T d (.ptr b 0)) (upd σ b z)) : DRun P Γ f n Q (.wr ⟨d, none, .alloc z⟩ .nil .no :: segs) k T σ :=
 DRun.wr1 (G := fun x s => ∃ b, σ b = none ∧ x = .ptr b 0 ∧ s = upd σ b z) (WrF.of fun T' hT => InsOK.alloc fun b hb => ⟨b, hb, rfl, rfl⟩) fun r s ⟨b, hb, e1, e2⟩ => by subst e1 e2; exact (hk b hb).sound

/-- A part in which it is read and written: what is read stands apart from what is written. -/
def rdOK : DT → Bool
 | .rd g r => !g.i.wri && rdOK r
 | _ => true
def DSW (P : Program) (Γ : St) (σr : St) : DT → Ts → St → (Ts → St → Prop) → Prop
 | .nil, T, σ, K => K T σ
 | .rd g r, T, σ, K => stepG Γ g T σr fun x _ => DSW P Γ σr r (putT T g.d x) σ K
 | t, T, σ, K => DS P Γ σr t T σ K
theorem DSW_nil {σr : St} {K : Ts → St → Prop} : DSW P Γ σr .nil T σ K = K T σ := rfl
theorem DSW_rd {σr : St} {g : GI} {r : DT} {K : Ts → St → Prop} : DSW P Γ σr (.rd g r) T σ K = stepG Γ g T σr fun x _ => DSW P Γ σr r (putT T g.d x) σ K := rfl
theorem DSW_wr {σr : St} {g : GI} {r a : DT} {K : Ts → St → Prop} : DSW P Γ σr (.wr g r a) T σ K = DS P Γ σr (.wr g r a) T σ K := rfl
theorem DS.of {σr : St} : ∀ {t : DT} {T : Ts} {σ : St} {K : Ts → St → Prop}, rdOK t = true → DSW P Γ σr t T σ K → DS P Γ σr t T σ K := by
 intro t
 induction t with
 | nil => intro T σ K _ h; exact h
 | rd g r ih =>
  intro T σ K hr h
  simp only [rdOK, Bool.and_eq_true, Bool.not_eq_true'] at hr
  obtain ⟨x, h1, h2⟩ := stepG_read hr.1 h
  exact ⟨x, h1, ih hr.2 h2⟩
 | wr g r alt => intro T σ K _ h; exact h
 | no => intro T σ K _ h; exact h
theorem DS.callQ {σr : St} {K : Ts → St → Prop} {d : Option Nat} {r' : DT} {x : Opd} {as : List Opd} {g : FuncId} {vs : List V} {G : V → St → Prop} (h : ACalls P Γ g vs σ G) (hv : ∃ caps, ev Γ T x = .fn g caps ∧ as.map (ev Γ T) ++ caps = vs) (hr : rdOK r' = true)
  (hk : ∀ r s, G r s → disj s σr → DSW P Γ σr r' (putT T d r) s K) : DS P Γ σr (.wr ⟨d, none, .call x as⟩ r' .no) T σ K :=
 ⟨⟨G, .inl (WrF.call h hv), fun r s hG hd => DS.of hr (hk r s hG hd)⟩, trivial⟩
theorem cup_one (σ : St) (b : Nat) (c : List V) : cup (upd emp b c) (del σ b) = upd σ b c := by
 funext n; by_cases h : n = b <;> simp [cup, upd, del, emp, h]
theorem disj_one (σ : St) (b : Nat) (c : List V) : disj (upd emp b c) (del σ b) := by
 intro n; by_cases h : n = b
 ·exact .inr (by simp [del, h])
 ·exact .inl (by simp [upd, emp, h])
/-- Where one block alone is written. -/
theorem DRun.mix1 {b : Nat} {c : List V} {t : DT} {segs : List DT} (hb : σ b = some c) (hr : rdOK t = true) (h : DSW P Γ (del σ b) t T (upd emp b c) fun T s => ∃ c', s = upd emp b c' ∧ WD P Γ f n Q k segs T (upd σ b c')) : DRun P Γ f n Q (t :: segs) k T σ :=
 ⟨upd emp b c, del σ b, disj_one σ b c, by rw [cup_one, upd_self σ hb], DS.mono (fun T s ⟨c', e, hw⟩ => by subst e; rw [cup_one]; exact hw.sound) (DS.of hr h)⟩

/-- Numbers, bools, texts, one behind the other. -/
def ints (xs : List Int) : List V := xs.map (V.int .i64)
def intsV (xs : List Int) : V := .isl false 1 (ints xs)
theorem ints_len (xs : List Int) : (ints xs).length = xs.length := by simp [ints]
theorem ints_one (xs : List Int) : ∀ c ∈ ints xs, c.one = true := by
 intro c hc; simp only [ints, List.mem_map] at hc; obtain ⟨x, _, rfl⟩ := hc; rfl
theorem ints_app (xs : List Int) (x : Int) : ints xs ++ [.int .i64 x] = ints (xs ++ [x]) := by simp [ints]
theorem ints_get {xs : List Int} {i : Nat} {x : Int} (h : xs[i]? = some x) : (ints xs)[i]? = some (.int .i64 x) := by simp [ints, h]
theorem flat_one {xs : List V} (h : ∀ x ∈ xs, x.one = true) : flat xs = xs := by
 induction xs with
 | nil => rfl
 | cons x xs ih =>
  have h1 := ih fun y hy => h y (List.mem_cons_of_mem _ hy)
  have h2 : x.cells = [x] := by have := h x (List.mem_cons_self ..); cases x <;> first | rfl | (simp [V.one] at this)
  simp only [flat, List.flatMap_cons] at h1 ⊢
  rw [h1, h2]; rfl
theorem src_row {ex : Bool} {xs : List V} (h : ∀ x ∈ xs, x.one = true) : srcV σ 1 (.isl ex 1 xs) = some (xs, xs.length) := by
 simp only [srcV, or_true, if_true, flat_one h]
theorem src_one {es ex : _} {σ : St} {x : V} (h : x.one = true) : srcV σ 1 (.isl ex es [x]) = if es = 1 then some ([x], 1) else none := by
 simp only [srcV, flat_one (xs := [x]) (by simpa using h)]
 simp
theorem src_i {ex : Bool} {σ : St} {k : IntKind} {a : Int} : srcV σ 1 (.isl ex 1 [.int k a]) = some ([.int k a], 1) := by rw [src_one rfl]; rfl
theorem src_b {ex : Bool} {σ : St} {a : Bool} : srcV σ 1 (.isl ex 1 [.bool a]) = some ([.bool a], 1) := by rw [src_one rfl]; rfl
theorem src_s {ex : Bool} {σ : St} {ex' : Bool} {es : Nat} {xs : List V} : srcV σ 1 (.isl ex 1 [.isl ex' es xs]) = some ([.isl ex' es xs], 1) := by rw [src_one rfl]; rfl
/-- The loop: what holds at its head. -/
theorem W_loopR {c : C} (J : Nat → Ts → St → Prop) (m : Nat) (h0 : J m T σ)
  (round : ∀ m T σ, (∀ m' T' σ', m' < m → J m' T' σ' → W P Γ f n Q (.inL c :: k) T' σ') → J m T σ → W P Γ f n Q (.code c :: .inL c :: k) T σ) : W P Γ f n Q (.code (.loop c) :: k) T σ := by
 rw [W_loop]
 exact SRun.loop J m h0 fun m T σ ih hJ => (round m T σ (fun m' T' σ' hlt hJ' => by rw [W_inL]; exact ih m' T' σ' hlt hJ') hJ).sound
theorem WD_app {d : Option Nat} {g : Option (Nat × Bool)} {u v : DT} {r : List DT} (e b : Nat) (s x : Opd) : WD P Γ f n Q k (.wr ⟨d, g, .app e b s x⟩ u v :: r) T σ = DRun P Γ f n Q (.wr ⟨d, g, .app e b s x⟩ u v :: r) k T σ := by
 cases u <;> cases v <;> cases r <;> rfl
theorem WD_call {d : Option Nat} {g : Option (Nat × Bool)} {u v : DT} {r : List DT} (x : Opd) (as : List Opd) : WD P Γ f n Q k (.wr ⟨d, g, .call x as⟩ u v :: r) T σ = DRun P Γ f n Q (.wr ⟨d, g, .call x as⟩ u v :: r) k T σ := by
 cases u <;> cases v <;> cases r <;> rfl
theorem WD_alloc {d : Option Nat} {g : Option (Nat × Bool)} {u v : DT} {r : List DT} (z : List V) : WD P Γ f n Q k (.wr ⟨d, g, .alloc z⟩ u v :: r) T σ = DRun P Γ f n Q (.wr ⟨d, g, .alloc z⟩ u v :: r) k T σ := by
 cases u <;> cases v <;> cases r <;> rfl
theorem WD_box {d : Option Nat} {g : Option (Nat × Bool)} {u v : DT} {r : List DT} (m : Nat) (x : Opd) : WD P Γ f n Q k (.wr ⟨d, g, .box m x⟩ u v :: r) T σ = DRun P Γ f n Q (.wr ⟨d, g, .box m x⟩ u v :: r) k T σ := by
 cases u <;> cases v <;> cases r <;> rfl
theorem WD_mksl {d : Option Nat} {g : Option (Nat × Bool)} {u v : DT} {r : List DT} (e b : Nat) (z : List V) (s x : Opd) : WD P Γ f n Q k (.wr ⟨d, g, .mksl e b z s x⟩ u v :: r) T σ = DRun P Γ f n Q (.wr ⟨d, g, .mksl e b z s x⟩ u v :: r) k T σ := by
 cases u <;> cases v <;> cases r <;> rfl
theorem WD_appz {d : Option Nat} {g : Option (Nat × Bool)} {u v : DT} {r : List DT} (e b : Nat) (z : List V) (s x : Opd) : WD P Γ f n Q k (.wr ⟨d, g, .appz e b z s x⟩ u v :: r) T σ = DRun P Γ f n Q (.wr ⟨d, g, .appz e b z s x⟩ u v :: r) k T σ := by
 cases u <;> cases v <;> cases r <;> rfl
end
attribute [go_sem] DSW_nil DSW_rd DSW_wr rdOK WD_app WD_call WD_alloc WD_box WD_mksl WD_appz
end Go.Proofs.Ytdenfjbhkdhlkaa.Lg
