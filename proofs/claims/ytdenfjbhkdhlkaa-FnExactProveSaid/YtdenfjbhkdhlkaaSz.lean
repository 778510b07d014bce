/- How long a slice of whole numbers may be, and what a slice that came in says to the own logic. -/
import Derived.Test.YtdenfjbhkdhlkaaLgR
import Derived.SizedLaws
import Derived.ChangeSlices
import Derived.Below
set_option linter.unusedSimpArgs false
set_option linter.unusedVariables false
namespace Go.Proofs.Ytdenfjbhkdhlkaa.Lg
open Go Go.ChangeShapes Go.WideShapes
open Go.RowKit (Below)
/-- A row's slice of whole numbers is no longer than its weight allows. -/
theorem lenOfInts {H : Type} {enc : TypeId × Value → H} {P : Program} {W : World} {base : Nat} {spare : Nat → Bool} {held : Bool} {t e : TypeId} {k : IntKind} {a : Option Addr} {len cap : Nat} {d : DataW H} {ps : List MemPlace} {ts : List TypeId} {ds : List (DataW H)} {j : Nat}
    (hsz : (DataW.weightsEach P ts ds).all (· ≤ reachBytes) = true) (ht : ts[j]? = some t) (hd : ds[j]? = some d) (hu : P.underlying t = some (.slice e)) (he : P.underlying e = some (.int k)) (hc : P.cellsOf e = 1) {B : Nat} (hB : P.bytesOf e = B)
    (h : DataW.Trod enc P W base spare held t (.slice a len cap) d ps) : len * B ≤ 140737488351232 := by
  obtain ⟨fuel, hf⟩ := h
  rcases open_ints hu he hc hf with ⟨hcs, _⟩ | ⟨x, l, c, zs, hcs, _, hl, _, hz, hx, _, _⟩
  · simp [Value.cells] at hcs
    obtain ⟨rfl, rfl, rfl⟩ := hcs
    simp
  · simp [Value.cells] at hcs
    obtain ⟨rfl, rfl, rfl⟩ := hcs
    obtain ⟨hx, _⟩ := Prod.mk.inj hx
    subst hx
    have z := sized_slice hsz ht hd hu
    rw [hB] at z
    have hl2 : len ≤ zs.length := by
      rw [hz]
      split
      · exact hl
      · exact Nat.le_refl _
    have h1 : (lits (H := H) k (zs.take len)).length + (lits (H := H) k (zs.drop len)).length = zs.length := by
      simp [lits]
      omega
    rw [h1] at z
    exact Nat.le_trans (Nat.mul_le_mul_right _ hl2) z
/-- A slice of bytes that came in. -/
def IsRow (w : World) (a : Option Addr) (len cap : Nat) (zs : List Int) : Prop :=
  (a = none ∧ len = 0 ∧ cap = 0 ∧ zs = []) ∨
  ∃ x, a = some x ∧ len ≤ cap ∧ cap ≤ maxLen ∧ zs.length = cap ∧ (∀ i, i < zs.length → w.cell? (x.add i) = some (.int .u8 (zs.getD i 0))) ∧ ∀ n ∈ zs, (Lit.int .u8 n).wf = true
theorem rep_bytes {w : World} {O : Nat → Prop} (hO : ∀ b, ¬ O b) {a : Option Addr} {len cap : Nat} {zs : List Int} (h : IsRow w a len cap zs) : ∃ code : List UInt8, code.length = len ∧ Rep w O (.isl false 1 (code.map fun c => .int .u8 (c.toNat : Int))) (.slice a len cap) := by
  by_cases hl0 : len = 0
  · subst hl0
    exact ⟨[], rfl, .isl0 false 1 a cap (fun h => by cases h)⟩
  rcases h with ⟨_, h, _, _⟩ | ⟨x, rfl, hlc, _, hz, hcell, hwf⟩
  · exact absurd h hl0
  obtain ⟨b, off, spot⟩ := x
  have h0 := hcell 0 (by omega)
  have hspot : spot = none := by
    have h1 : (⟨b, off, spot⟩ : Addr).add 0 = ⟨b, off, spot⟩ := by simp [Addr.add]
    rw [h1] at h0
    unfold World.cell? at h0
    cases spot with
    | none => rfl
    | some s => split at h0 <;> simp at h0
  subst hspot
  have hcell' : ∀ i, i < zs.length → w.cell? ⟨b, off + i, none⟩ = some (.int .u8 (zs.getD i 0)) := fun i hi => by rw [← addr_add]; exact hcell i hi
  have hbyte : ∀ n ∈ zs, 0 ≤ n ∧ n ≤ 255 := by
    intro n hn
    have := hwf n hn
    simp [Lit.wf, IntKind.min, IntKind.max, IntKind.bits, IntKind.signed] at this
    omega
  have hblt : b < w.heap.size := by
    have h1 := hcell' 0 (by omega)
    unfold World.cell? at h1
    split at h1
    · rename_i hb; exact lt_of_get hb
    · cases h1
  let code : List UInt8 := (zs.take len).map fun n => UInt8.ofNat n.toNat
  have hcl : code.length = len := by simp [code]; omega
  refine ⟨code, hcl, ?_⟩
  have hm : Mem w O (flat (code.map fun c => V.int .u8 (c.toNat : Int))) b off := by
    rw [flat_one (by intro x hx; obtain ⟨c, _, rfl⟩ := List.mem_map.1 hx; rfl)]
    intro i x hx
    rw [List.getElem?_map, Option.map_eq_some_iff] at hx
    obtain ⟨c, hc, rfl⟩ := hx
    have hi : i < len := by have := (List.getElem?_eq_some_iff.1 hc).1; omega
    have hzi : zs[i]? = some zs[i] := List.getElem?_eq_getElem (by omega)
    refine ⟨rfl, .int .u8 (zs.getD i 0), hcell' i (by omega), ?_⟩
    have hb2 := hbyte zs[i] (List.getElem_mem (by omega))
    have hce : c = UInt8.ofNat zs[i].toNat := by
      simp only [code, List.getElem?_map, Option.map_eq_some_iff] at hc
      obtain ⟨n, hn, rfl⟩ := hc
      rw [List.getElem?_take, if_pos hi, hzi] at hn
      rw [Option.some.inj hn]
    have hv : (c.toNat : Int) = zs.getD i 0 := by
      rw [hce]
      simp only [List.getD, hzi, Option.getD_some, UInt8.toNat_ofNat']
      omega
    rw [hv]; exact .int _ _
  have hr := hm.isl (es := 1) (c := cap) (ex := false) hblt (hO b) (by simp [hcl]; omega) (fun h => by cases h) (by intro x hx; obtain ⟨c, _, rfl⟩ := List.mem_map.1 hx; rfl)
  rw [List.length_map, hcl] at hr
  exact hr
theorem below_of {w w' : World} {O O' : Nat → Prop} (hO : ∀ b, ¬ O b) (h : Keep w w' O O') : Below w.heap.size w w' :=
  ⟨h.io.1, h.io.2.1, h.io.2.2.1, h.size, fun k hk => h.same k hk (hO k)⟩
theorem own_emp (b : Nat) : ¬ own (cup emp emp) b := by simp [own, cup, emp]
theorem calls_of {P : Program} {f : FuncId} {args : List V} {r : V} (h : Ret P emp f args emp r emp) {w : World} {cargs : Array Value} (ha : RepL w (own (cup emp emp)) args cargs) :
    Calls P f cargs w fun e w' => (∃ v, e = .returned v ∧ Rep w' (own (cup emp emp)) r v) ∧ Below w.heap.size w w' := by
  refine (h.2 emp w cargs (disj_emp _) (fun b cs hb => by simp [cup, emp] at hb) (fun g cs hg => by simp [emp] at hg) ha).mono ?_
  rintro e w' ⟨r', v, s, rfl, ⟨rfl, rfl⟩, p1, p2, p3, p4⟩
  exact ⟨⟨v, rfl, p3⟩, below_of own_emp p4⟩
end Go.Proofs.Ytdenfjbhkdhlkaa.Lg
