/- strings.Join: the kit's contract, laid at this program (numbers are the seat's own: lay-plain.mjs printed this), and the own contract. -/
import Derived.Shelf.Strings.OnBuilder
import Derived.Shelf.Lays
import Derived.Test.YtjibkkhgejcjeaaGreatDoorChecked
import Derived.Test.YtjibkkhgejcjeaaGreatDoorBc
namespace Go.Proofs
open Go.Shelf
def Tryz.lJoin_ren : Go.Shelf.Ren := ⟨fun | 156 => 102 | 165 => 127 | 166 => 101 | 169 => 104 | 240 => 126 | 241 => 147 | 276 => 146 | 277 => 167 | n => n, fun | 31 => 22 | 9 => 9 | 3 => 3 | 4 => 4 | 0 => 0 | 20 => 20 | 72 => 147 | 76 => 150 | 70 => 145 | 37 => 43 | 75 => 149 | 127 => 181 | 164 => 196 | 5 => 5 | 80 => 117 | n => n, fun | n => n⟩
theorem Tryz.lJoin : Go.Proofs.Lays.n156 Tryz.prog Tryz.lJoin_ren := {
  mixed := by kernel_rfl
  f156 := Tryz.func102.trans (congrArg some (by kernel_rfl))
  f165 := Tryz.func127.trans (congrArg some (by kernel_rfl))
  f166 := Tryz.func101.trans (congrArg some (by kernel_rfl))
  f169 := Tryz.func104.trans (congrArg some (by kernel_rfl))
  f240 := Tryz.func126.trans (congrArg some (by kernel_rfl))
  f241 := Tryz.func147.trans (congrArg some (by kernel_rfl))
  f276 := Tryz.func146.trans (congrArg some (by kernel_rfl))
  f277 := Tryz.func167.trans (congrArg some (by kernel_rfl))
  t0 := Tryz.underlying0
  a0 := Tryz.isAgg0
  z0 := Tryz.sizeOf0
  v0 := Tryz.zeroValue0
  t3 := Tryz.underlying3
  a3 := Tryz.isAgg3
  z3 := Tryz.sizeOf3
  v3 := Tryz.zeroValue3
  t4 := Tryz.underlying4
  a4 := Tryz.isAgg4
  z4 := Tryz.sizeOf4
  v4 := Tryz.zeroValue4
  t9 := Tryz.underlying9
  a9 := Tryz.isAgg9
  z9 := Tryz.sizeOf9
  v9 := Tryz.zeroValue9
  t20 := Tryz.underlying20
  a20 := Tryz.isAgg20
  z20 := Tryz.sizeOf20
  v20 := Tryz.zeroValue20
  t31 := Tryz.underlying22
  a31 := Tryz.isAgg22
  z31 := Tryz.sizeOf22
  v31 := Tryz.zeroValue22
  t37 := Tryz.underlying43
  a37 := Tryz.isAgg43
  z37 := Tryz.sizeOf43
  v37 := Tryz.zeroValue43
  t70 := Tryz.underlying145
  a70 := Tryz.isAgg145
  z70 := Tryz.sizeOf145
  v70 := Tryz.zeroValue145
  t72 := Tryz.underlying147
  a72 := Tryz.isAgg147
  z72 := Tryz.sizeOf147
  v72 := Tryz.zeroValue147
  t75 := Tryz.underlying149
  a75 := Tryz.isAgg149
  z75 := Tryz.sizeOf149
  v75 := Tryz.zeroValue149
  t76 := Tryz.underlying150
  a76 := Tryz.isAgg150
  z76 := Tryz.sizeOf150
  v76 := Tryz.zeroValue150
  t127 := Tryz.underlying181
  a127 := Tryz.isAgg181
  z127 := Tryz.sizeOf181
  v127 := Tryz.zeroValue181
  t164 := Tryz.underlying196
  a164 := Tryz.isAgg196
  z164 := Tryz.sizeOf196
  v164 := Tryz.zeroValue196 }
theorem Tryz.xJoin : Builder.Extra Tryz.prog Tryz.lJoin_ren := {
  sizeBuilder := by kernel_rfl
  liesBuilder := by kernel_rfl
  t5 := Tryz.underlying5
  a5 := Tryz.isAgg5
  z5 := Tryz.sizeOf5
  v5 := Tryz.zeroValue5
  infoByte := by kernel_rfl
  cellsByte := by kernel_rfl
  sizeByte := by kernel_rfl
  neB5 := by decide }
end Go.Proofs
namespace Go.Proofs.YtjibkkhgejcjeaaGreatDoor.Lg
open Go Go.Lib Go.RowKit
variable {Γ : St} {σ σ0 : St}
theorem rep_isl_ne {w : World} {O : Nat → Prop} {ex : Bool} {es : Nat} {xs : List V} {v : Value} (h : Rep w O (.isl ex es xs) v) (hn : xs ≠ []) : ∃ (b off c : Nat) (cell : Nat → Value), v = .slice (some ⟨b, off, none⟩) xs.length c ∧ xs.length ≤ c ∧ b < w.heap.size ∧
    (∀ (i : Nat) (x : V), (flat xs)[i]? = some x → w.cell? ⟨b, off + i, none⟩ = some (cell i)) ∧ (∀ (i : Nat) (x : V), (flat xs)[i]? = some x → Rep w O x (cell i)) := by
  cases h with
  | isl0 => exact absurd rfl hn
  | isl _ _ _ b off c cell h1 h2 h3 h4 h5 h6 h7 h8 h9 => exact ⟨b, off, c, cell, rfl, h2, h5, h8, h9⟩
/-- strings.Join, of some words. -/
theorem Join_ok {ex : Bool} {ws : List (List UInt8)} {sep : List UInt8} (hn : ws ≠ []) (hl : ws.length ≤ 1000000) (hj : (join ws sep).length ≤ 140737488355328) : Ret Tryz.prog Γ 102 [.isl ex 1 (ws.map V.str), .str sep] σ (.str (join ws sep)) σ := by
  refine ⟨by kernel_rfl, fun τ w cs hd hs hgl hr => ?_⟩
  obtain ⟨u, v, rfl, h1, h2⟩ := args2 hr
  obtain rfl := rep_str_inv h2
  obtain ⟨b, off, c, cell, rfl, hc, hbl, hcell, hrep⟩ := rep_isl_ne h1 (by simpa using hn)
  have hf : flat (ws.map V.str) = ws.map V.str := flat_one fun x hx => by obtain ⟨y, _, rfl⟩ := List.mem_map.1 hx; rfl
  rw [hf] at hcell hrep
  have hml : (ws.map fun s : List UInt8 => (⟨s.toArray⟩ : ByteArray)).map (·.data.toList) = ws := by rw [List.map_map]; simp [Function.comp_def]
  have key := Any.strings_Join Tryz.lJoin Tryz.xJoin b off c (ws.map fun s => ⟨s.toArray⟩) ⟨sep.toArray⟩ w (fun j x hx => by
    rw [List.getElem?_map, Option.map_eq_some_iff] at hx
    obtain ⟨s, hs2, rfl⟩ := hx
    have hv : (ws.map V.str)[j]? = some (.str s) := by rw [List.getElem?_map, hs2]; rfl
    rw [hcell j _ hv, rep_str_inv (hrep j _ hv)]) hbl (by rw [List.length_map]; omega) (by rw [List.length_map]; rw [List.length_map] at hc; exact hc) (by rw [hml]; exact hj)
  rw [hml, List.length_map] at key
  rw [List.length_map]
  refine Calls.mono key ?_
  rintro e w' ⟨rfl, hb⟩
  exact ⟨.str _, _, σ, rfl, ⟨rfl, rfl⟩, post_below hd hs hb (.str _)⟩
end Go.Proofs.YtjibkkhgejcjeaaGreatDoor.Lg
