/- What a sort of the kit leaves of the memory: told in the own logic's words. -/
import Derived.Test.YtlojopaebdnacaaLgL
import Derived.Sort.Grow
set_option linter.unusedSimpArgs false
set_option linter.unusedVariables false
namespace Go.Proofs.Ytlojopaebdnacaa.Lg
open Go
variable {α : Type} [Inhabited α]
theorem Keep.grow {w : World} {O : Nat → Prop} (os : Array Obj) : Keep w (Go.Sort.grow w os) O O where
  size := by simp [Go.Sort.grow]
  same b hb _ := by
    show (w.heap ++ os)[b]? = _
    rw [Array.getElem?_append_left hb]
  shape b arr e fz hb := ⟨arr, fz, by show (w.heap ++ os)[b]? = _; rw [Array.getElem?_append_left (lt_of_get hb)]; exact hb, rfl⟩
  own b hb := .inl hb
  io := ⟨rfl, rfl, rfl, Nat.le_refl _⟩
theorem Sim.grow {σ : St} {w : World} (h : Sim σ w) (os : Array Obj) : Sim σ (Go.Sort.grow w os) :=
  h.keep (.grow os) fun b hb => by show (w.heap ++ os)[b]? = _; rw [Array.getElem?_append_left (h.lt hb)]
theorem putCells_size (enc : α → Value) (d : Array α) (c : Array Value) : (Go.Sort.putCells enc 0 d c).size = c.size := by simp [Go.Sort.putCells]
theorem putCells_at {enc : α → Value} {d : Array α} {c : Array Value} {i : Nat} (h : i < d.size) (hc : d.size ≤ c.size) : (Go.Sort.putCells enc 0 d c).getD i undef = enc d[i]! := by
  have h2 : i < c.size := by omega
  simp [Go.Sort.putCells, Array.getD, h2, h]
theorem row_post {σ0 τ : St} {w : World} {b q : Nat} {cs cs' : List V} {os : Array Obj} {enc : α → Value} {d : Array α} (hd : disj (upd σ0 b cs) τ) (hs : Sim (cup (upd σ0 b cs) τ) w) (hl : cs'.length = cs.length) (hdl : d.size = cs.length)
    (hc : ∀ (i : Nat) (x : V), cs'[i]? = some x → x.one = true ∧ Rep w (own (cup (upd σ0 b cs) τ)) x (enc d[i]!)) :
    Post (upd σ0 b cs) τ w (.tup []) (.tuple #[]) (upd σ0 b cs') (Go.Sort.grow (Go.Sort.putRow enc (Go.Sort.ahead w q) b 0 d) os) := by
  have hτ : τ b = none := hd.other (upd_same σ0 b cs)
  have hb : cup (upd σ0 b cs) τ b = some cs := cup_of_some (upd_same σ0 b cs)
  obtain ⟨arr, e, fz, g1, g2, g3, g4⟩ := hs b cs hb
  have hS : cup (upd σ0 b cs') τ = upd (cup (upd σ0 b cs) τ) b cs' := by
    rw [cup_upd, cup_upd, upd_upd]
  have hw := hs.write (w' := Go.Sort.putRow enc (Go.Sort.ahead w q) b 0 d) (arr' := Go.Sort.putCells enc 0 d arr) (cs' := cs') hb g1 (fun n hn => by
      show (w.heap.modify b _)[n]? = _
      rw [Array.getElem?_modify, if_neg (fun h => hn h.symm)]) (by
      show (w.heap.modify b _)[b]? = _
      rw [Array.getElem?_modify, if_pos rfl, g1]; rfl) (by
      show (w.heap.modify b _).size = _
      simp) (putCells_size _ _ _) (by omega) (fun i x hx => by
      have hi := (List.getElem?_eq_some_iff.1 hx).1
      rw [putCells_at (by omega) (by omega)]
      exact hc i x hx) ⟨rfl, rfl, rfl, Nat.le_add_right _ _⟩
  have hk2 : Keep (Go.Sort.putRow enc (Go.Sort.ahead w q) b 0 d) (Go.Sort.grow (Go.Sort.putRow enc (Go.Sort.ahead w q) b 0 d) os) (own (cup (upd σ0 b cs') τ)) (own (cup (upd σ0 b cs') τ)) := .grow os
  rw [← hS] at hw
  refine ⟨fun n => ?_, hw.1.grow os, .tup _ _ rfl (fun i x hx => by simp at hx), hw.2.trans hk2⟩
  by_cases hn : n = b
  · subst hn; exact .inr hτ
  · rcases hd n with h | h
    · exact .inl (by rw [upd_ne _ _ hn] at h ⊢; exact h)
    · exact .inr h
/-- The row stands there, and nothing of it is frozen. -/
theorem row_holds {σ0 τ : St} {w : World} {b : Nat} {cs : List V} {enc : α → Value} {d : Array α} (hs : Sim (cup (upd σ0 b cs) τ) w) (hdl : d.size = cs.length)
    (hc : ∀ (i : Nat) (x : V) (u : Value), cs[i]? = some x → Rep w (own (cup (upd σ0 b cs) τ)) x u → u = enc d[i]!) : Go.Sort.Holds enc w b 0 d ∧ b < w.heap.size := by
  have hb : cup (upd σ0 b cs) τ b = some cs := cup_of_some (upd_same σ0 b cs)
  obtain ⟨arr, e, fz, g1, g2, g3, g4⟩ := hs b cs hb
  refine ⟨fun j hj => ?_, lt_of_get g1⟩
  have hj2 : j < cs.length := by omega
  have hx : cs[j]? = some cs[j] := by simp [hj2]
  have h3 := hc j _ _ hx (g4 j _ hx).2
  have hja : j < arr.size := by omega
  have hnf := g2 j hja
  rw [Nat.zero_add]
  constructor
  · simp only [World.cell?, g1]
    rw [← h3]
    simp [Array.getD, hja]
  · simp only [World.frozen?, g1]
    simp; omega
end Go.Proofs.Ytlojopaebdnacaa.Lg
