/- The library's functions on texts and numbers, told in the own logic's words. -/
import Derived.Test.YtjibkkhgejcjeaaGreatDoorAc
import Derived.Test.YtjibkkhgejcjeaaGreatDoorBa
import Derived.Test.YtjibkkhgejcjeaaGreatDoorLh
set_option linter.unusedSimpArgs false
set_option linter.unusedVariables false
namespace Go.Proofs.YtjibkkhgejcjeaaGreatDoor.Lg
open Go Go.Lib Go.RowKit
variable {Γ : St} {σ σ0 : St}
theorem Keep.below {w w' : World} {O : Nat → Prop} (h : Below w.heap.size w w') : Keep w w' O O where
  size := h.size
  same b hb _ := h.block b hb
  shape b arr e fz hb := ⟨arr, fz, by rw [h.block b (lt_of_get hb)]; exact hb, rfl⟩
  own b hb := .inl hb
  io := ⟨h.os, h.tape, h.output⟩
theorem Sim.below {w w' : World} (hs : Sim σ w) (h : Below w.heap.size w w') : Sim σ w' := hs.keep (.below h) fun b hb => h.block b (hs.lt hb)
theorem post_below {τ : St} {w w' : World} {r : V} {v : Value} (hd : disj σ τ) (hs : Sim (cup σ τ) w) (h : Below w.heap.size w w') (hr : Rep w' (own (cup σ τ)) r v) : Post σ τ w r v σ w' := ⟨hd, hs.below h, hr, .below h⟩
theorem args1 {w : World} {O : Nat → Prop} {x : V} {c : Array Value} (h : RepL w O [x] c) : ∃ v, c = #[v] ∧ Rep w O x v := by
  obtain ⟨hz, hq⟩ := h
  have hz2 : c.size = 1 := by rw [← hz]; rfl
  refine ⟨c.getD 0 undef, ?_, hq 0 _ rfl⟩
  apply Array.ext
  · rw [hz2]; rfl
  · intro i h1 h2
    obtain rfl : i = 0 := by omega
    simp [Array.getD, hz2]
theorem args2 {w : World} {O : Nat → Prop} {x y : V} {c : Array Value} (h : RepL w O [x, y] c) : ∃ u v, c = #[u, v] ∧ Rep w O x u ∧ Rep w O y v := by
  obtain ⟨hz, hq⟩ := h
  have hz2 : c.size = 2 := by rw [← hz]; rfl
  refine ⟨c.getD 0 undef, c.getD 1 undef, ?_, hq 0 _ rfl, hq 1 _ rfl⟩
  apply Array.ext
  · rw [hz2]; rfl
  · intro i h1 h2
    rcases (by omega : i = 0 ∨ i = 1) with rfl | rfl <;> simp [Array.getD, hz2]
/-- What is known of the library's variables. -/
structure NumG (Γ : St) : Prop where
  pow : Γ 3 = some (pow10Tab.map fun z => .int .u64 z)
  mx : ∃ m, Γ 2 = some [.int .i64 m]
  syn : ∃ t x, Γ 6 = some [.iface t x]
  rng : ∃ t x, Γ 7 = some [.iface t x]
theorem Glob.cell {w : World} {O : Nat → Prop} (h : Glob Γ w O) {g : Nat} {cs : List V} (hg : Γ g = some cs) {i : Nat} {x : V} (hx : cs[i]? = some x) : ∃ v, w.cell? ⟨g, i, none⟩ = some v ∧ Rep w O x v := by
  obtain ⟨b, off, he, _, _, hm⟩ := rep_iptr_inv (h g cs hg).1
  injection he with he; injection he with he; injection he with e1 e2 _
  obtain ⟨_, v, h1, h2⟩ := hm i x hx
  subst e1 e2
  exact ⟨v, by simpa using h1, h2⟩
theorem Glob.tab {w : World} {O : Nat → Prop} (h : Glob Γ w O) {g : Nat} {name : String} {k : IntKind} {zs : List Int} (hn : Tryz.prog.globalNamed name = some g) (hg : Γ g = some (zs.map fun z => .int k z)) : TabIs Tryz.prog w name k zs := by
  obtain ⟨arr, t, fz, h1, h2⟩ := (h g _ hg).2
  rw [List.length_map] at h2
  unfold TabIs World.var?
  rw [hn]
  simp only [Option.bind_some, h1]
  congr 1
  apply Array.ext
  · simp [h2]
  · intro i p q
    have hi : i < zs.length := by omega
    obtain ⟨v, hv, hr⟩ := h.cell hg (i := i) (x := .int k zs[i]) (by simp [hi])
    have := rep_int_inv hr
    subst this
    simp only [World.cell?, h1, Option.isSome_none, Bool.false_eq_true, if_false] at hv
    rw [Array.getElem?_eq_getElem p] at hv
    simp only [Option.some.injEq] at hv
    simp [hv]
theorem Glob.num {w : World} {O : Nat → Prop} (h : Glob Γ w O) (hg : NumG Γ) : NumTabs w where
  pow := h.tab (by kernel_rfl) hg.pow
  syn := by
    obtain ⟨t, x, e⟩ := hg.syn
    obtain ⟨v, hv, hr⟩ := h.cell e (i := 0) rfl
    cases hr with
    | iface _ _ u _ => exact ⟨t, u, hv⟩
  rng := by
    obtain ⟨t, x, e⟩ := hg.rng
    obtain ⟨v, hv, hr⟩ := h.cell e (i := 0) rfl
    cases hr with
    | iface _ _ u _ => exact ⟨t, u, hv⟩
/-- The program's number. -/
theorem number_ok (hg : NumG Γ) {t : List UInt8} (hl : t.length ≤ 281474976710656) : ACalls Tryz.prog Γ 137 [.str t] σ fun r s => s = σ ∧ ∃ n, r = .tup [.int .i64 n, .bool (numP t).isSome] ∧ ∀ m, numP t = some m → n = m := by
  refine ⟨by kernel_rfl, fun τ w c hd hs hgl hr => ?_⟩
  obtain ⟨v, rfl, h1⟩ := args1 hr
  obtain rfl := rep_str_inv h1
  refine (number_calls ⟨t.toArray⟩ (by rw [size_of_bytes]; exact hl) w (hgl.num hg)).mono ?_
  rintro e w' ⟨hb, n, rfl, hn⟩
  refine ⟨.tup [.int .i64 n, .bool (numP t).isSome], _, σ, rfl, ⟨rfl, n, rfl, hn⟩, post_below hd hs hb ?_⟩
  refine .tup _ _ rfl fun i x hx => ?_
  match i with
  | 0 => simp at hx; subst hx; exact .int _ _
  | 1 => simp at hx; subst hx; exact .bool _
  | i + 2 => simp at hx
theorem Itoa_ok (hg : NumG Γ) {n : Int} (h0 : -9223372036854775808 ≤ n) (h1 : n ≤ 9223372036854775807) : Ret Tryz.prog Γ 97 [.int .i64 n] σ (.str (itoa n)) σ := by
  refine ⟨by kernel_rfl, fun τ w c hd hs hgl hr => ?_⟩
  obtain ⟨v, rfl, h2⟩ := args1 hr
  obtain rfl := rep_int_inv h2
  refine (itoa_calls n h0 h1 w (hgl.num hg).pow).mono ?_
  rintro e w' ⟨rfl, hb⟩
  exact ⟨.str (itoa n), _, σ, rfl, ⟨rfl, rfl⟩, post_below hd hs hb (.str _)⟩
theorem IndexByte_ok {s : List UInt8} {c : UInt8} : Ret Tryz.prog Γ 117 [.str s, .int .u8 (c.toNat : Int)] σ (.int .i64 (indexByte s c)) σ := by
  refine ⟨by kernel_rfl, fun τ w cs hd hs hgl hr => ?_⟩
  obtain ⟨u, v, rfl, h1, h2⟩ := args2 hr
  obtain rfl := rep_str_inv h1
  obtain rfl := rep_int_inv h2
  refine (Any.strings_IndexByte Tryz.lIndexByte ⟨s.toArray⟩ (c.toNat : Int) w).mono ?_
  rintro e w' ⟨rfl, rfl⟩
  have e1 : (c.toNat : Int).toNat.toUInt8 = c := by simp
  exact ⟨.int .i64 (indexByte s c), _, σ, rfl, ⟨rfl, rfl⟩, hd, hs, by rw [e1]; exact .int _ _, Keep.refl _ _⟩
theorem indexByte_pos (l : List UInt8) (c : UInt8) : 0 ≤ indexByte l c ↔ c ∈ l := by
  induction l with
  | nil => simp [indexByte]
  | cons b r ih =>
    unfold indexByte
    by_cases h : b = c
    · subst h; simp
    · have hb : (b == c) = false := by simpa using h
      rw [hb]
      have hge := indexByte_ge r c
      by_cases h2 : indexByte r c = -1
      · have : c ∉ r := fun hm => by have := ih.2 hm; omega
        simp [h2, this, Ne.symm h]
      · have h3 : (indexByte r c == -1) = false := by simpa using h2
        have : c ∈ r := ih.1 (by omega)
        simp [h3, this]; omega
/-- Parted at a byte. -/
theorem Split_ok (hg : NumG Γ) {t : List UInt8} {b : UInt8} (hl : t.length < 4294967281) : Ret Tryz.prog Γ 53 [.str t, .str [b]] σ (.isl true 1 ((cutP b t).map .str)) σ := by
  refine ⟨by kernel_rfl, fun τ w cs hd hs hgl hr => ?_⟩
  obtain ⟨u, v, rfl, h1, h2⟩ := args2 hr
  obtain rfl := rep_str_inv h1
  obtain rfl := rep_str_inv h2
  obtain ⟨m, hm⟩ := hg.mx
  obtain ⟨v, hv, hr1⟩ := hgl.cell hm (i := 0) rfl
  have := rep_int_inv hr1
  subst this
  refine (Any.strings_Split Tryz.lSplit (by kernel_rfl) ⟨t.toArray⟩ ⟨#[b]⟩ m w (by rw [size_of_bytes]; exact hl) hv (Nat.le_refl 1)).mono ?_
  rintro e w' ⟨rfl, rfl⟩
  have hdat := splitB_data ⟨#[b]⟩ 0 (countB ⟨t.toArray⟩ ⟨#[b]⟩) ⟨t.toArray⟩
  have hcut : splitK [b] 0 (countB ⟨t.toArray⟩ ⟨#[b]⟩) t = cutP b t := split_cut b t
  have hlen := splitB_all ⟨#[b]⟩ (Nat.le_refl 1) 0 _ ⟨t.toArray⟩ rfl
  generalize countB ⟨t.toArray⟩ ⟨#[b]⟩ = k at *
  generalize splitB ⟨#[b]⟩ 0 k ⟨t.toArray⟩ = S at *
  have hS : S.map (·.data.toList) = cutP b t := hdat.trans hcut
  have hN : (cutP b t).length = k + 1 := by rw [← hS, List.length_map, hlen]
  have hne := cutP_ne b t
  have hf := hs.fresh
  have hk : Keep w (w.alloc (.cells (S.map Value.string).toArray (Tryz.lSplit_ren.t 9))) (own (cup σ τ)) (own (cup σ τ)) := .push rfl
  refine ⟨.isl true 1 ((cutP b t).map .str), _, σ, rfl, ⟨rfl, rfl⟩, hd, hs.push rfl, ?_, hk⟩
  have h3 : k + 1 = ((cutP b t).map V.str).length := by rw [List.length_map, hN]
  rw [h3]
  have hone : ∀ x ∈ (cutP b t).map V.str, x.one = true := fun x hx => by obtain ⟨y, _, rfl⟩ := List.mem_map.1 hx; rfl
  refine Mem.isl (off := 0) ?_ (by simp) (fun h => by unfold own at h; rw [hf] at h; cases h) (Nat.le_refl _) (fun _ => rfl) (fun x hx => by obtain ⟨y, _, rfl⟩ := List.mem_map.1 hx; rfl)
  rw [flat_one hone]
  intro i x hx
  obtain ⟨hi, rfl⟩ := List.getElem?_eq_some_iff.1 hx
  rw [List.length_map] at hi
  have hi2 : i < S.length := by rw [hlen]; omega
  have e1 : (cutP b t)[i] = S[i].data.toList := by
    have : (cutP b t)[i]? = (S.map (·.data.toList))[i]? := by rw [hS]
    simpa [hi, hi2] using this
  refine ⟨hone _ (List.getElem_mem _), .string ⟨(cutP b t)[i].toArray⟩, ?_, by rw [List.getElem_map]; exact .str _⟩
  have hnew : (w.alloc (.cells (S.map Value.string).toArray (Tryz.lSplit_ren.t 9))).heap[w.heap.size]? = some (.cells (S.map Value.string).toArray (Tryz.lSplit_ren.t 9)) := heap_alloc_new w _
  simp only [World.cell?, hnew, Option.isSome_none, Bool.false_eq_true, if_false, Nat.zero_add]
  simp [hi2, e1]
end Go.Proofs.YtjibkkhgejcjeaaGreatDoor.Lg
