/- The own logic: rows that are made, more of them. It holds for every program. -/
import Derived.Test.YtdenfjbhkdhlkaaLgM
set_option linter.unusedSimpArgs false
set_option linter.unusedVariables false
namespace Go.Proofs.Ytdenfjbhkdhlkaa.Lg
open Go
variable {Γ : St} {σ σ0 : St}
theorem frz_nil {σ σ' : St} (es es' : Nat) : Frz σ σ' (.isl true es []) (.isl false es' []) := .isl0 _ _ _ _ (fun h => by cases h)
/-- What is appended is owned, or told. -/
theorem SRun.appS {P : Program} {f : FuncId} {n : Nat} {Q : V → St → Prop} {k : List It} {T : Ts} {l : List GI} {es : Nat} {xs ys : List V} {d : Option Nat} {by_ : Nat} {s x : Opd} (h : OwnL σ0 es xs (ev Γ T s) σ) (hx : srcV σ es (ev Γ T x) = some (flat ys, ys.length)) (hy : ∀ y ∈ ys, y.cells.length = es ∧ ∀ c ∈ y.cells, c.one = true) (hfit : (xs.length + ys.length) * by_ ≤ 140737488355328)
  (hk : ∀ r σ', OwnL σ0 es (xs ++ ys) r σ' → W P Γ f n Q (.ops l :: k) (putT T d r) σ') : SRun P Γ f n (.ops (⟨d, none, .app es by_ s x⟩ :: l) :: k) T σ Q := by
 refine SRun.appO h.1 hx (flat_length fun x hm => (hy x hm).1) hfit fun r σ' ho => hk r σ' ⟨?_, fun x hm => ?_⟩
 ·rw [flat_append, List.length_append]; exact ho
 ·rcases List.mem_append.1 hm with hm | hm
  ·exact h.2 x hm
  ·exact hy x hm
/-- A slice that is made, empty so far, with room or without. -/
def Own0 (σ0 : St) (es : Nat) (r : V) (σ : St) : Prop := (σ = σ0 ∧ ∃ es', r = .isl true es' []) ∨ ∃ b cap cells, σ0 b = none ∧ r = .msl b es 0 0 cap ∧ σ = upd σ0 b cells
def OwnG (σ0 : St) (es : Nat) (xs : List V) (r : V) (σ : St) : Prop := (xs = [] ∧ Own0 σ0 es r σ) ∨ OwnL σ0 es xs r σ
theorem OwnG.le {es : Nat} {xs : List V} {r : V} (h : OwnG σ0 es xs r σ) : ∀ b c, σ0 b = some c → σ b = some c := by
 rcases h with ⟨_, ⟨rfl, _⟩ | ⟨b, cap, cells, hb, _, rfl⟩⟩ | h
 ·exact fun _ _ h => h
 ·exact le_upd hb
 ·exact h.le
theorem OwnG.conv {es : Nat} {xs : List V} {r : V} (h : OwnG σ0 es xs r σ) : Conv σ r σ0 (.isl false es xs) := by
 refine ⟨h.le, ?_⟩
 rcases h with ⟨rfl, ⟨rfl, es', rfl⟩ | ⟨b, cap, cells, hb, rfl, rfl⟩⟩ | h
 ·exact frz_nil _ _
 ·exact .msl b es 0 0 cap cells [] (upd_same _ _ _) hb (by omega) rfl (fun x hx => by cases hx) (by simp [flat]) (fun i x hx => by simp [flat] at hx) (fun i x y _ hx => by simp [flat] at hx)
 ·exact h.conv.2
section
variable {P : Program} {f : FuncId} {n : Nat} {Q : V → St → Prop} {k : List It} {T : Ts} {l : List GI} {es : Nat} {xs ys : List V}
theorem SRun.appG {d : Option Nat} {by_ : Nat} {s x : Opd} {ex : Bool} (h : OwnG σ0 es xs (ev Γ T s) σ) (hx : ev Γ T x = .isl ex es ys) (hy : ∀ y ∈ ys, y.cells.length = es ∧ ∀ c ∈ y.cells, c.one = true) (hfit : (xs.length + ys.length) * by_ ≤ 140737488355328)
  (hk : ∀ r σ', OwnL σ0 es (xs ++ ys) r σ' → W P Γ f n Q (.ops l :: k) (putT T d r) σ') : SRun P Γ f n (.ops (⟨d, none, .app es by_ s x⟩ :: l) :: k) T σ Q := by
 rcases h with ⟨rfl, ⟨rfl, es', he⟩ | ⟨b, cap, cells, hb, he, rfl⟩⟩ | h
 ·exact SRun.appL (by rw [he]; exact OwnL.nil _ _) hx hy hfit hk
 ·have hfl : (flat ys).length = ys.length * es := flat_length fun x hm => (hy x hm).1
  refine SRun.appR (old := []) (sLen := 0) (by rw [he]; have := Base.msl (es := es) b 0 cap cells (upd_same σ0 b cells) (by omega); simpa using this) (by rw [hx]; exact src_isl) (by simpa using hfit) (fun b2 cap2 hb2 hc2 => ?_) (fun _ ex2 es2 xs2 he2 => by rw [he] at he2; cases he2)
  rw [he] at hb2 ⊢
  simp only [baseDel] at hb2 ⊢
  rw [del_upd σ0 cells hb] at hb2 ⊢
  refine hk _ _ ⟨.inr ⟨b2, cap2, hb2, by simp, by simp, by simpa using hfl, by simpa using hc2⟩, by simpa using hy⟩
 ·exact SRun.appL h hx hy hfit hk
end
theorem OwnL.cup {s : St} {es : Nat} {xs : List V} {r : V} {σ1 : St} (h : OwnL σ0 es xs r s) (hd : disj s σ1) : OwnL (Lg.cup σ0 σ1) es xs r (Lg.cup s σ1) := by
 obtain ⟨h, hx⟩ := h
 refine ⟨?_, hx⟩
 rcases h with ⟨h1, h2, rfl, h3⟩ | ⟨b2, cap, h2, h3, rfl, h4⟩
 ·exact .inl ⟨h1, h2, rfl, h3⟩
 ·refine .inr ⟨b2, cap, ?_, h3, by rw [cup_upd], h4⟩
  have := (hd b2).resolve_left (by rw [upd_same]; simp)
  simp [Lg.cup, h2, this]
theorem OwnL.ext {s : St} {es : Nat} {xs : List V} {r : V} {b : Nat} {z : List V} (h : OwnL σ0 es xs r s) (hb : s b = none) : OwnL (Lg.upd σ0 b z) es xs r (Lg.upd s b z) := ⟨own_ext h.1 hb, h.2⟩
theorem OwnL.of_app {es : Nat} {xs ys : List V} {r q : V} {s s2 : St} (h : OwnL σ0 es xs q s2) (hy : ∀ y ∈ ys, y.cells.length = es ∧ ∀ c ∈ y.cells, c.one = true) (ho : OwnS σ0 es (flat xs ++ flat ys) (xs.length + ys.length) r s) : OwnL σ0 es (xs ++ ys) r s :=
 ⟨by rw [flat_append, List.length_append]; exact ho, fun x hm => by
  rcases List.mem_append.1 hm with hm | hm
  ·exact h.2 x hm
  ·exact hy x hm⟩
theorem WrF.appL {P : Program} {T : Ts} {es : Nat} {xs ys : List V} {d : Option Nat} {by_ : Nat} {s x : Opd} {ex : Bool} (h : OwnL σ0 es xs (ev Γ T s) σ) (hx : ev Γ T x = .isl ex es ys) (hy : ∀ y ∈ ys, y.cells.length = es ∧ ∀ c ∈ y.cells, c.one = true) (hfit : (xs.length + ys.length) * by_ ≤ 140737488355328) :
  WrF P Γ σ T ⟨d, none, .app es by_ s x⟩ fun r σ' => OwnS σ0 es (flat xs ++ flat ys) (xs.length + ys.length) r σ' :=
 WrF.of fun T' hT => InsOK.appO (by rw [hT s (by simp [I.opds])]; exact h.1) (by rw [hT x (by simp [I.opds]), hx]; exact src_isl) (flat_length fun x hm => (hy x hm).1) hfit
end Go.Proofs.Ytdenfjbhkdhlkaa.Lg
