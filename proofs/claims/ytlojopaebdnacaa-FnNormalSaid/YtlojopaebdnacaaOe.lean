/- The program's slices.SortFunc of literals, out of the kit's contract. -/
import Derived.Test.YtlojopaebdnacaaOd
import Derived.Shelf.SlSortCmp.Whole1
import Derived.Shelf.SlGeneric
import Derived.Ground.SlsfProg
set_option linter.unusedSimpArgs false
set_option linter.unusedVariables false
namespace Go.Proofs
open Go.Shelf
def Try.sortInt_ren : Go.Shelf.Ren := ⟨fun | 6 => 108 | 15 => 117 | 14 => 127 | 28 => 137 | 29 => 138 | 20 => 140 | 21 => 141 | 22 => 142 | 23 => 143 | 24 => 144 | 25 => 145 | 26 => 146 | 27 => 147 | 46 => 153 | 47 => 149 | 48 => 150 | 49 => 154 | 50 => 155 | 57 => 157 | n => n, fun | 22 => 27 | 24 => 3 | 25 => 116 | 3 => 3 | 39 => 31 | 0 => 0 | 53 => 136 | 55 => 138 | 4 => 4 | 46 => 130 | 45 => 129 | 50 => 110 | 5 => 5 | 9 => 9 | 66 => 145 | 70 => 149 | 76 => 153 | 77 => 38 | n => n, fun | n => n⟩
theorem Try.sortInt : Go.Proofs.SlLaysF.n6 Try.prog Try.sortInt_ren := {
  mixed := by kernel_rfl
  f6 := ⟨Try.f108.name, by decide, Try.func108.trans (congrArg some (by kernel_rfl))⟩
  f14 := ⟨Try.f127.name, by decide, Try.func127.trans (congrArg some (by kernel_rfl))⟩
  f15 := Try.func117.trans (congrArg some (by kernel_rfl))
  f20 := ⟨Try.f140.name, by decide, Try.func140.trans (congrArg some (by kernel_rfl))⟩
  f21 := ⟨Try.f141.name, by decide, Try.func141.trans (congrArg some (by kernel_rfl))⟩
  f22 := ⟨Try.f142.name, by decide, Try.func142.trans (congrArg some (by kernel_rfl))⟩
  f23 := ⟨Try.f143.name, by decide, Try.func143.trans (congrArg some (by kernel_rfl))⟩
  f24 := ⟨Try.f144.name, by decide, Try.func144.trans (congrArg some (by kernel_rfl))⟩
  f25 := ⟨Try.f145.name, by decide, Try.func145.trans (congrArg some (by kernel_rfl))⟩
  f26 := ⟨Try.f146.name, by decide, Try.func146.trans (congrArg some (by kernel_rfl))⟩
  f27 := ⟨Try.f147.name, by decide, Try.func147.trans (congrArg some (by kernel_rfl))⟩
  f28 := Try.func137.trans (congrArg some (by kernel_rfl))
  f29 := Try.func138.trans (congrArg some (by kernel_rfl))
  f46 := ⟨Try.f153.name, by decide, Try.func153.trans (congrArg some (by kernel_rfl))⟩
  f47 := Try.func149.trans (congrArg some (by kernel_rfl))
  f48 := Try.func150.trans (congrArg some (by kernel_rfl))
  f49 := ⟨Try.f154.name, by decide, Try.func154.trans (congrArg some (by kernel_rfl))⟩
  f50 := ⟨Try.f155.name, by decide, Try.func155.trans (congrArg some (by kernel_rfl))⟩
  f57 := ⟨Try.f157.name, by decide, Try.func157.trans (congrArg some (by kernel_rfl))⟩
  t0 := Try.underlying0
  a0 := Try.isAgg0
  z0 := Try.sizeOf0
  v0 := Try.zeroValue0
  t3 := Try.underlying3
  a3 := Try.isAgg3
  z3 := Try.sizeOf3
  v3 := Try.zeroValue3
  t4 := Try.underlying4
  a4 := Try.isAgg4
  z4 := Try.sizeOf4
  v4 := Try.zeroValue4
  t5 := Try.underlying5
  a5 := Try.isAgg5
  z5 := Try.sizeOf5
  v5 := Try.zeroValue5
  t9 := Try.underlying9
  a9 := Try.isAgg9
  z9 := Try.sizeOf9
  v9 := Try.zeroValue9
  t22 := Try.underlying27
  a22 := Try.isAgg27
  z22 := Try.sizeOf27
  v22 := Try.zeroValue27
  a24 := Try.isAgg3
  z24 := Try.sizeOf3
  t25 := Try.underlying116
  a25 := Try.isAgg116
  z25 := Try.sizeOf116
  v25 := Try.zeroValue116
  t39 := Try.underlying31
  a39 := Try.isAgg31
  z39 := Try.sizeOf31
  v39 := Try.zeroValue31
  t45 := Try.underlying129
  a45 := Try.isAgg129
  z45 := Try.sizeOf129
  v45 := Try.zeroValue129
  t46 := Try.underlying130
  a46 := Try.isAgg130
  z46 := Try.sizeOf130
  v46 := Try.zeroValue130
  t50 := Try.underlying110
  a50 := Try.isAgg110
  z50 := Try.sizeOf110
  v50 := Try.zeroValue110
  t53 := Try.underlying136
  a53 := Try.isAgg136
  z53 := Try.sizeOf136
  v53 := Try.zeroValue136
  t55 := Try.underlying138
  a55 := Try.isAgg138
  z55 := Try.sizeOf138
  v55 := Try.zeroValue138
  t66 := Try.underlying145
  a66 := Try.isAgg145
  z66 := Try.sizeOf145
  v66 := Try.zeroValue145
  t70 := Try.underlying149
  a70 := Try.isAgg149
  z70 := Try.sizeOf149
  v70 := Try.zeroValue149
  t76 := Try.underlying153
  a76 := Try.isAgg153
  z76 := Try.sizeOf153
  v76 := Try.zeroValue153
  t77 := Try.underlying38
  a77 := Try.isAgg38
  z77 := Try.sizeOf38
  v77 := Try.zeroValue38 }
end Go.Proofs
namespace Go.Proofs.Ytlojopaebdnacaa.Lg
open Go Go.Shelf Go.Sort
def smallL (xs : List Int) : Prop := ∀ x ∈ xs, -1000000 ≤ x ∧ x ≤ 1000000
abbrev Lit := {x : Int // -1000000 ≤ x ∧ x ≤ 1000000}
instance instLit : Inhabited Lit := ⟨⟨0, by omega⟩⟩
def encL (x : Lit) : Value := .int .i64 x.1
def cfL (x y : Lit) : Int := rankP x.1 - rankP y.1
theorem ltL (x y : Lit) : ltOf cfL x y = decide (rankP x.1 < rankP y.1) := by
  unfold ltOf cfL
  by_cases h : rankP x.1 < rankP y.1
  · rw [decide_eq_true h]; exact decide_eq_true (by omega)
  · rw [decide_eq_false h]; exact decide_eq_false (by omega)
theorem swoL : SWO (ltOf cfL) where
  irrefl x := by rw [ltL]; simp
  trans x y z h1 h2 := by rw [ltL] at *; simp at *; omega
  ntrans x y z h1 h2 := by rw [ltL] at *; simp at *; omega
def litsL (xs : List Int) (h : smallL xs) : List Lit := xs.attach.map fun x => ⟨x.1, h x.1 x.2⟩
theorem litsL_map {xs : List Int} (h : smallL xs) : (litsL xs h).map (·.1) = xs := by
  unfold litsL
  rw [List.map_map]
  exact List.attach_map_subtype_val xs
theorem litsL_len {xs : List Int} (h : smallL xs) : (litsL xs h).length = xs.length := by simp [litsL]
theorem rep_int {w : World} {O : Nat → Prop} {k : IntKind} {n : Int} {u : Value} (h : Rep w O (.int k n) u) : u = .int k n := by cases h; rfl
theorem litsL_at {xs : List Int} (hx : smallL xs) {i : Nat} {x : V} (h : (ints xs)[i]? = some x) : x = .int .i64 ((litsL xs hx).toArray[i]!).1 := by
  obtain ⟨hi, rfl⟩ := List.getElem?_eq_some_iff.1 h
  have hi' : i < xs.length := by rwa [ints_len] at hi
  have hli : i < (litsL xs hx).length := by rw [litsL_len]; exact hi'
  have e1 : (litsL xs hx).toArray[i]! = (litsL xs hx)[i] := by simp [hli]
  rw [e1]; simp [ints, litsL]
theorem litArr_at {d : Array Lit} {i : Nat} (h : i < d.size) : (d.toList.map (·.1)).getD i 0 = (d[i]!).1 := by simp [List.getD, h]
theorem args_two {w : World} {O : Nat → Prop} {b len cap : Nat} {g : FuncId} {cargs : Array Value} (hr : RepL w O [.msl b 1 0 len cap, .fn g []] cargs) : cargs = #[.slice (some ⟨b, 0, none⟩) len cap, .func (.func g) #[] #[]] := by
  obtain ⟨hz, hq⟩ := hr
  have q0 := hq 0 _ rfl
  have q1 := hq 1 _ rfl
  have hz2 : cargs.size = 2 := by rw [← hz]; rfl
  have e : cargs = #[cargs.getD 0 undef, cargs.getD 1 undef] := by
    apply Array.ext
    · rw [hz2]; rfl
    · intro i h1 h2
      rcases (by omega : i = 0 ∨ i = 1) with rfl | rfl <;> simp [Array.getD, hz2]
  generalize cargs.getD 0 undef = u0 at *
  generalize cargs.getD 1 undef = u1 at *
  cases q0 with
  | msl _ _ _ _ _ arr e2 fz h1 h2 h3 =>
    cases q1 with
    | fn _ _ vs hl _ =>
      have : vs = #[] := Array.eq_empty_of_size_eq_zero hl.symm
      rw [e, this]
theorem sortInts_ok {Γ σ0 : St} {xs : List Int} {b cap : Nat} (hl : xs.length ≤ 1000000) (hx : smallL xs) :
    ACalls Try.prog Γ 108 [.msl b 1 0 xs.length cap, .fn 109 []] (upd σ0 b (ints xs)) fun r s => ∃ ys, ys.length = xs.length ∧ (∀ x, x ∈ ys ↔ x ∈ xs) ∧ upTo ys ys.length ∧ s = upd σ0 b (ints ys) := by
  refine ⟨by kernel_rfl, fun τ w cargs hd hs hg hr => ?_⟩
  obtain rfl := args_two hr
  have hH := row_holds (enc := encL) (d := (litsL xs hx).toArray) hs (by simp [litsL_len, ints_len]) (fun i x u h1 h2 => by
    rw [litsL_at hx h1] at h2
    exact rep_int h2)
  have hsz : (litsL xs hx).toArray.size = xs.length := by simp [litsL_len]
  have hK := Any.slices_SortFunc Try.sortInt encL (fun _ => rfl) cfL swoL 109 #[] b 0 cap (litsL xs hx).toArray w (fun args w => run_callFunc (by kernel_rfl) args w) (CmpReads.lays fun _ _ _ _ x y => compareLiterals_calls x.2 y.2 _) hH.1 hH.2 (by rw [hsz]; omega)
  change Calls Try.prog 108 _ _ _ at hK
  rw [hsz] at hK
  refine Calls.mono hK ?_
  rintro e w' ⟨rfl, d', n, os, hp, hso, rfl⟩
  have hdl : d'.size = xs.length := by have := hp.1; rw [hsz] at this; exact this
  have hpl : d'.toList.Perm (litsL xs hx) := by
    have := hp.2.2
    rw [← hsz] at this
    have hdl2 : d'.size = (litsL xs hx).toArray.size := by omega
    simp [List.take_of_length_le, hdl2] at this
    exact this
  have hml : (d'.toList.map (·.1)).Perm xs := by
    have := hpl.map (·.1)
    rwa [litsL_map] at this
  refine ⟨.tup [], .tuple #[], upd σ0 b (ints (d'.toList.map (·.1))), rfl, ⟨_, ?_, fun x => hml.mem_iff, fun p q h1 h2 => ?_, rfl⟩, row_post (enc := encL) (d := d') hd hs ?_ ?_ fun i x h => ?_⟩
  · simp [hdl]
  · have h2 : q < d'.size := by simpa using h2
    rw [litArr_at (by omega), litArr_at h2]
    have := hso p q (Nat.zero_le _) h1 (by omega)
    rw [ltL] at this
    have := of_decide_eq_false this
    omega
  · rw [ints_len, ints_len]; simp [hdl]
  · rw [ints_len]; exact hdl
  · obtain ⟨hi, rfl⟩ := List.getElem?_eq_some_iff.1 h
    have hi' : i < d'.size := by rw [ints_len] at hi; simpa using hi
    have e : (ints (d'.toList.map (·.1)))[i] = .int .i64 (d'[i]!).1 := by simp [ints, hi']
    rw [e]
    exact ⟨rfl, .int _ _⟩
end Go.Proofs.Ytlojopaebdnacaa.Lg
