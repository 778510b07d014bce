/- What is told of the functions that are reached, as far as it is asked here. -/
import Derived.Test.YtabelcohkpmpnaaKz2
import Derived.KernelRfl
set_option linter.unusedSimpArgs false
set_option linter.unusedVariables false
namespace Go.Proofs.Ytabelcohkpmpnaa.Lg
open Go
section
attribute [local irreducible] SRun DS DRun
variable {Γ : St} {σ σ0 : St}
theorem rtsV_len (rs : List Rt) : (rtsV rs).length = rs.length := by simp [rtsV]
section
variable {P : Program} {f : FuncId} {n : Nat} {Q : V → St → Prop} {k : List It} {T : Ts} {g : GI} {l : List GI}
theorem stepW_iaddr_rts {ex : Bool} {xs : List Rt} {kk : IntKind} {m : Int} (h0 : 0 ≤ m) (h1 : m < xs.length) : stepW P Γ f n Q (.iaddr 4 (.c (.isl ex 4 (rtsV xs))) (.c (.int kk m))) g l k T σ = W P Γ f n Q (.ops l :: k) (putT T g.d (.iptr (rtC (xs.getD m.toNat default)))) σ := stepW_iaddr_map h0 h1
theorem stepK_iaddr_rts {K : V → St → Prop} {ex : Bool} {xs : List Rt} {kk : IntKind} {m : Int} (h0 : 0 ≤ m) (h1 : m < xs.length) : stepK (.iaddr 4 (.c (.isl ex 4 (rtsV xs))) (.c (.int kk m))) σ K = K (.iptr (rtC (xs.getD m.toNat default))) σ := stepK_iaddr_map h0 h1
theorem stepW_iaddr_bools {ex : Bool} {xs : List Bool} {kk : IntKind} {m : Int} (h0 : 0 ≤ m) (h1 : m < xs.length) : stepW P Γ f n Q (.iaddr 1 (.c (.isl ex 1 (bools xs))) (.c (.int kk m))) g l k T σ = W P Γ f n Q (.ops l :: k) (putT T g.d (.iptr [.bool (xs.getD m.toNat false)])) σ := stepW_iaddr_map h0 h1
theorem stepK_iaddr_bools {K : V → St → Prop} {ex : Bool} {xs : List Bool} {kk : IntKind} {m : Int} (h0 : 0 ≤ m) (h1 : m < xs.length) : stepK (.iaddr 1 (.c (.isl ex 1 (bools xs))) (.c (.int kk m))) σ K = K (.iptr [.bool (xs.getD m.toNat false)]) σ := stepK_iaddr_map h0 h1
end
attribute [go_sem] stepW_iaddr_rts stepK_iaddr_rts rtsV_len stepW_iaddr_bools stepK_iaddr_bools bools_len
theorem le_two {b c : Nat} (hb : σ b = none) (hc : σ c = none) (y z : List V) : ∀ d x, σ d = some x → upd (upd σ b y) c z d = some x := by
  intro d x h
  have h1 : d ≠ c := fun e => by subst e; rw [h] at hc; cases hc
  have h2 : d ≠ b := fun e => by subst e; rw [h] at hb; cases hb
  rw [upd_ne _ _ h1, upd_ne _ _ h2]; exact h
/-- What is owned beside what is not needed any more. -/
theorem ownL_less {σ1 s : St} {es : Nat} {xs : List V} {q : V} (h : OwnL σ1 es xs q s) (hle : ∀ b c, σ b = some c → σ1 b = some c) : ∃ s2, (∀ b c, s2 b = some c → s b = some c) ∧ OwnL σ es xs q s2 := by
  rcases h.1 with ⟨hc, hl, rfl, es', rfl⟩ | ⟨b2, cap, hb, rfl, rfl, h4⟩
  · exact ⟨σ, hle, .inl ⟨hc, hl, rfl, es', rfl⟩, h.2⟩
  · have hb2 : σ b2 = none := by
      cases e : σ b2 with
      | none => rfl
      | some c => rw [hle _ _ e] at hb; cases hb
    refine ⟨upd σ b2 (flat xs), fun b c hbc => ?_, .inr ⟨b2, cap, hb2, rfl, rfl, h4⟩, h.2⟩
    by_cases e : b = b2
    · subst e; rw [upd_same] at hbc ⊢; exact hbc
    · rw [upd_ne _ _ e] at hbc ⊢; exact hle _ _ hbc
theorem l07None_ok : Ret Try.prog Γ 70 [] σ (.agg (rtC noRt)) σ := by
  refine ret_of c70_ok rfl ?_
  simp (disch := omega) only [c70, go_sem]
  refine SRun.allocR ?_
  intro b hb
  simp (disch := omega) only [go_sem]
  exact W_retC c70_ok (resV_cellA rfl (upd_same _ _ _) rfl) (Conv.drop _ (le_upd hb)) ⟨rfl, rfl⟩
end
section
attribute [local irreducible] SRun DS DRun
variable {Γ : St} {σ σ0 : St}
theorem linkP_in (ls : List Link) (x y : Int) : -1 ≤ linkP ls x y ∧ linkP ls x y < ls.length := first_in _ _
/-- The vias of routes name routers. -/
def ViasIn (rs : List Rt) : Prop := ∀ v : Int, (rtAt rs v).via < rs.length
end
section
attribute [local irreducible] SRun DS DRun
variable {Γ : St} {σ σ0 : St}
theorem rt_dec (a b : Rt) : (decide (a.via = b.via) && (decide (a.pref = b.pref) && (decide (a.len = b.len) && a.mark == b.mark))) = decide (a = b) := by
  obtain ⟨a1, a2, a3, a4⟩ := a
  obtain ⟨b1, b2, b3, b4⟩ := b
  rw [Bool.eq_iff_iff]; simp [Rt.mk.injEq]
end
section
attribute [local irreducible] SRun DS DRun
variable {Γ : St} {σ σ0 : St}
theorem ints1_ok (x : Int) : ∀ y ∈ [V.int .i64 x], y.cells.length = 1 ∧ ∀ c ∈ y.cells, c.one = true := ints_ok [x]
end
section
attribute [local irreducible] SRun DS DRun
variable {Γ : St} {σ σ0 : St}
/-- States, as a list of lists of routes. -/
def staV (ss : List (List Rt)) : List V := ss.map fun rs => .isl false 4 (rtsV rs)
theorem staV_len (ss : List (List Rt)) : (staV ss).length = ss.length := by simp [staV]
section
variable {P : Program} {f : FuncId} {n : Nat} {Q : V → St → Prop} {k : List It} {T : Ts} {g : GI} {l : List GI}
theorem stepW_iaddr_sta {ex : Bool} {xs : List (List Rt)} {kk : IntKind} {m : Int} (h0 : 0 ≤ m) (h1 : m < xs.length) : stepW P Γ f n Q (.iaddr 1 (.c (.isl ex 1 (staV xs))) (.c (.int kk m))) g l k T σ = W P Γ f n Q (.ops l :: k) (putT T g.d (.iptr [.isl false 4 (rtsV (xs.getD m.toNat []))])) σ := stepW_iaddr_map (F := fun rs : List Rt => .isl false 4 (rtsV rs)) h0 h1
theorem stepK_iaddr_sta {K : V → St → Prop} {ex : Bool} {xs : List (List Rt)} {kk : IntKind} {m : Int} (h0 : 0 ≤ m) (h1 : m < xs.length) : stepK (.iaddr 1 (.c (.isl ex 1 (staV xs))) (.c (.int kk m))) σ K = K (.iptr [.isl false 4 (rtsV (xs.getD m.toNat []))]) σ := stepK_iaddr_map (F := fun rs : List Rt => .isl false 4 (rtsV rs)) h0 h1
end
attribute [go_sem] stepW_iaddr_sta stepK_iaddr_sta staV_len
section
variable {P : Program} {f : FuncId} {n : Nat} {Q : V → St → Prop} {k : List It} {T : Ts} {g : GI} {l : List GI}
theorem stepW_eqa4 {neg : Bool} {a1 a2 a3 b1 b2 b3 : Int} {a4 b4 : Bool} : stepW P Γ f n Q (.eqa neg [0, 0, 0, 1] (.c (.agg [.int .i64 a1, .int .i64 a2, .int .i64 a3, .bool a4])) (.c (.agg [.int .i64 b1, .int .i64 b2, .int .i64 b3, .bool b4]))) g l k T σ = W P Γ f n Q (.ops l :: k) (putT T g.d (.bool (neg != decide ((⟨a1, a2, a3, a4⟩ : Rt) = ⟨b1, b2, b3, b4⟩)))) σ := by
  rw [stepW_eqa]
  have h := rt_dec ⟨a1, a2, a3, a4⟩ ⟨b1, b2, b3, b4⟩
  rw [← h]
  cases neg <;> simp [pureI, eqK, pureW, ev, int_beq]
end
theorem bne_t (b : Bool) : (true != b) = !b := by cases b <;> rfl
theorem resV_cellT {T : Ts} {a n m b : Nat} {cs : List V} {v : V} (h1 : look T a = .ptr b 0) (h2 : σ b = some cs) (h3 : cs.length = n) (h4 : look T m = v) : resV [.cell a true n, .t m] T σ = some (.tup [.agg cs, v]) := by
  have ht : cs.take n = cs := List.take_of_length_le (by omega)
  simp [resV, resV1, h1, h2, h3, h4, ht]
end
end Go.Proofs.Ytabelcohkpmpnaa.Lg
