/- Lists that are owned, each in a block of its own: where they lie, that they are written, that they are lent. -/
import Derived.Test.YtjibkkhgejcjeaaGreatDoorLgL
set_option linter.unusedSimpArgs false
set_option linter.unusedVariables false
namespace Go.Proofs.YtjibkkhgejcjeaaGreatDoor.Lg
open Go
attribute [local irreducible] SRun DS DRun
variable {Γ : St} {σ σ0 : St}
theorem none_of {s t : St} (h : ∀ b c, s b = some c → t b = some c) : ∀ b, t b = none → s b = none := fun b hb => by
  cases e : s b with
  | none => rfl
  | some c => rw [h b c e] at hb; cases hb
def blk : V → Option Nat
  | .msl b _ _ _ _ => some b
  | _ => none
/-- A list that is owned, and what it holds. -/
def At (σ : St) (es : Nat) (xs : List V) (q : V) : Prop := (∀ x ∈ xs, x.cells.length = es ∧ ∀ c ∈ x.cells, c.one = true) ∧ ((xs = [] ∧ ∃ es', q = .isl true es' []) ∨ ∃ b cap, q = .msl b es 0 xs.length cap ∧ σ b = some (flat xs))
def wrt (σ : St) (q : V) (cs : List V) : St := match q with
  | .msl b _ _ _ _ => upd σ b cs
  | _ => σ
theorem wrt_nil (es : Nat) (cs : List V) : wrt σ (.isl true es []) cs = σ := rfl
theorem wrt_msl (b es off len cap : Nat) (cs : List V) : wrt σ (.msl b es off len cap) cs = upd σ b cs := rfl
theorem wrt_ne {q : V} {cs : List V} {d : Nat} (h : blk q ≠ some d) : wrt σ q cs d = σ d := by
  cases q <;> first | rfl | (simp only [wrt]; exact upd_ne _ _ (fun e => h (by rw [e]; rfl)))
theorem At.one {es : Nat} {xs : List V} {q : V} (h : At σ es xs q) : q.one = true := by
  rcases h.2 with ⟨_, _, rfl⟩ | ⟨_, _, rfl, _⟩ <;> rfl
theorem At.cells {es : Nat} {xs : List V} {q : V} (h : At σ es xs q) : q.cells = [q] := by
  rcases h.2 with ⟨_, _, rfl⟩ | ⟨_, _, rfl, _⟩ <;> rfl
theorem At.has {es : Nat} {xs : List V} {q : V} (h : At σ es xs q) {b : Nat} (hb : blk q = some b) : σ b = some (flat xs) := by
  rcases h.2 with ⟨_, _, rfl⟩ | ⟨_, _, rfl, h2⟩
  · cases hb
  · simp only [blk, Option.some.injEq] at hb; subst hb; exact h2
theorem At.to {es : Nat} {xs : List V} {q : V} (h : At σ es xs q) {s : St} (hs : ∀ b, blk q = some b → s b = σ b) : At s es xs q := by
  refine ⟨h.1, ?_⟩
  rcases h.2 with h2 | ⟨b, cap, rfl, h2⟩
  · exact .inl h2
  · exact .inr ⟨b, cap, rfl, by rw [hs b rfl]; exact h2⟩
theorem At.mono {es : Nat} {xs : List V} {q : V} (h : At σ es xs q) {s : St} (hs : ∀ b c, σ b = some c → s b = some c) : At s es xs q :=
  h.to fun b hb => by rw [hs b _ (h.has hb), h.has hb]
theorem At.wrt {es : Nat} {xs ys : List V} {q : V} (h : At σ es xs q) (hl : ys.length = xs.length) (hy : ∀ x ∈ ys, x.cells.length = es ∧ ∀ c ∈ x.cells, c.one = true) : At (Lg.wrt σ q (flat ys)) es ys q := by
  refine ⟨hy, ?_⟩
  rcases h.2 with ⟨rfl, es', rfl⟩ | ⟨b, cap, rfl, h2⟩
  · exact .inl ⟨List.eq_nil_of_length_eq_zero hl, es', rfl⟩
  · exact .inr ⟨b, cap, by rw [hl], upd_same _ _ _⟩
theorem At.frz {es : Nat} {xs : List V} {q : V} {s : St} (h : At σ es xs q) (hs : ∀ b, blk q = some b → s b = none) : Frz σ s q (.isl false es xs) := by
  obtain ⟨hx, h2⟩ := h
  rcases h2 with ⟨rfl, es', rfl⟩ | ⟨b, cap, rfl, h3⟩
  · exact .isl0 _ _ _ _ (fun h => by cases h)
  · refine .msl b es 0 xs.length cap (flat xs) xs h3 (hs b rfl) (by rw [flat_length fun x hx' => (hx x hx').1]; omega) rfl (fun x hm => (hx x hm).1) (flat_length fun x hx' => (hx x hx').1) (fun i x hi => flat_ones (fun x hm => (hx x hm).2) x (List.mem_of_getElem? hi)) (fun i x y hy hx' => ?_)
    rw [Nat.zero_add] at hy
    rw [hy] at hx'; obtain rfl := Option.some.inj hx'; exact .refl _
theorem At.lend {es : Nat} {xs : List V} {q : V} (h : At σ es xs q) : Frz σ emp q (.isl false es xs) := h.frz fun _ _ => rfl
theorem OwnL.atQ {es : Nat} {xs : List V} {q : V} (h : OwnL σ0 es xs q σ) : At σ es xs q ∧ ∀ b, blk q = some b → σ0 b = none := by
  obtain ⟨h1, h2⟩ := h
  rcases h1 with ⟨hc, hl, rfl, es', rfl⟩ | ⟨b2, cap, hb, rfl, rfl, h4⟩
  · exact ⟨⟨h2, .inl ⟨List.eq_nil_of_length_eq_zero hl, es', rfl⟩⟩, fun b hb => by cases hb⟩
  · exact ⟨⟨h2, .inr ⟨b2, cap, rfl, upd_same _ _ _⟩⟩, fun b hb' => by simp only [blk, Option.some.injEq] at hb'; subst hb'; exact hb⟩
theorem OwnL.plain {es : Nat} {xs : List V} {q : V} (h : OwnL σ0 es xs q σ) : Plain q := by
  rcases h.1 with ⟨hc, hl, rfl, es', rfl⟩ | ⟨b2, cap, hb, rfl, rfl, h4⟩
  · exact Plain.isl0 _ _
  · exact Plain.msl _ _ _ _ _
theorem Frz.more {σ σ' s : St} {x y : V} (h : Frz σ σ' x y) (hs : ∀ b c, σ b = some c → s b = some c) : Frz s σ' x y := by
  induction h with
  | refl v => exact .refl v
  | isl ex es xs => exact .isl ex es xs
  | isl0 ex ex2 es es' h => exact .isl0 ex ex2 es es' h
  | msl b es off len cap cs xs hb hb' h1 h2 h3 h4 h5 _ ih => exact .msl b es off len cap cs xs (hs _ _ hb) hb' h1 h2 h3 h4 h5 ih
  | agg cs ds h1 h2 _ ih => exact .agg cs ds h1 h2 ih
  | tup cs ds h1 _ ih => exact .tup cs ds h1 ih
theorem frzL_more {s s2 s' : St} : ∀ {xs ys : List V}, frzL s s' xs ys → (∀ b c, s b = some c → s2 b = some c) → frzL s2 s' xs ys := by
  intro xs
  induction xs with
  | nil => intro ys h _; cases ys with
    | nil => trivial
    | cons => exact h.elim
  | cons x r ih => intro ys h hs; cases ys with
    | nil => exact h.elim
    | cons y q => exact ⟨h.1.more hs, ih h.2 hs⟩
section
variable {P : Program} {σr : St} {T : Ts}
/-- A call in a part that draws, of a function that owns nothing of its own: it is lent what it reads, of all that there is. -/
theorem WrA.lend {d : Option Nat} {x : Opd} {us : List Opd} {g : FuncId} {vs vs' : List V} {Q : V → St → Prop} (h : ACalls P Γ g vs' emp Q) (hfz : disj σ σr → frzL (cup σ σr) emp vs vs') (hQ : ∀ r s, Q r s → Plain r ∧ ∀ b cs, s b = some cs → ∀ c ∈ cs, Plain c)
    (hv : ∃ caps, ev Γ T x = .fn g caps ∧ us.map (ev Γ T) ++ caps = vs) : WrA P Γ σr σ T ⟨d, none, .call x us⟩ fun r s => ∃ s', s = cup s' σ ∧ disj s' σ ∧ disj s' σr ∧ Q r s' := by
  obtain ⟨caps, h1, h2⟩ := hv
  refine .inr ⟨rfl, fun T' hT hd => ?_⟩
  have he := ev_congr (Γ := Γ) (g := ⟨d, none, .call x us⟩) hT
  have hm : us.map (ev Γ T') = us.map (ev Γ T) := List.map_congr_left fun o ho => he o (by simp [I.opds, ho])
  refine InsOK.call (g := g) (caps := caps) (by rw [he x (by simp [I.opds])]; exact h1) ?_
  rw [hm, h2]
  refine ACalls.mono P Γ (ACalls.lend (σ := cup σ σr) h (frzL_len (hfz hd)) (frzL_get (hfz hd)) hQ) ?_
  rintro r s ⟨s', rfl, hd2, hq⟩
  have hd3 : disj s' σ := fun n => by
    rcases hd2 n with h | h
    · exact .inl h
    · right
      cases e : σ n with
      | none => rfl
      | some c => rw [cup_of_some e] at h; cases h
  have hd4 : disj s' σr := fun n => by
    rcases hd2 n with h | h
    · exact .inl h
    · right
      cases e : σ n with
      | none => simpa [cup, e] using h
      | some c => rw [cup_of_some e] at h; cases h
  refine ⟨cup s' σ, by rw [cup_assoc], fun n => ?_, s', rfl, hd3, hd4, hq⟩
  rcases hd4 n with h | h
  · rcases hd n with h2 | h2
    · exact .inl (by simp [cup, h, h2])
    · exact .inr h2
  · exact .inr h
theorem DS.lend2 {K : Ts → St → Prop} {d : Option Nat} {r' alt : DT} {x : Opd} {us : List Opd} {g : FuncId} {vs vs' : List V} {Q : V → St → Prop} (h : ACalls P Γ g vs' emp Q) (hfz : disj σ σr → frzL (cup σ σr) emp vs vs') (hQ : ∀ r s, Q r s → Plain r ∧ ∀ b cs, s b = some cs → ∀ c ∈ cs, Plain c)
    (hv : ∃ caps, ev Γ T x = .fn g caps ∧ us.map (ev Γ T) ++ caps = vs) (hr : rdOK r' = true) (hk : ∀ r s', Q r s' → disj s' σ → disj s' σr → DSW P Γ σr r' (putT T d r) (cup s' σ) K) (ha : DS P Γ σr alt T σ K) : DS P Γ σr (.wr ⟨d, none, .call x us⟩ r' alt) T σ K := by
  with_unfolding_all exact ⟨⟨_, WrA.lend h hfz hQ hv, fun r s ⟨s', e, h1, h2, hq⟩ _ => by subst e; exact DS.of hr (hk r s' hq h1 h2)⟩, ha⟩
end
end Go.Proofs.YtjibkkhgejcjeaaGreatDoor.Lg
