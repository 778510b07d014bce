/- What the package's variables hold when a call begins, out of a row's list. -/
import Derived.Test.YtjibkkhgejcjeaaGreatDoorRows
import Derived.Test.YtjibkkhgejcjeaaGreatDoorVf
import Derived.Test.YtjibkkhgejcjeaaGreatDoorBc
import Derived.Stop.LaidErr
import Derived.Shelf.Vars
import Derived.MakeChecks
import Derived.Lay
import Derived.Lib.LaidTab
set_option linter.unusedSimpArgs false
set_option linter.unusedVariables false
namespace Go.Proofs.YtjibkkhgejcjeaaGreatDoor.Lg
open Go Go.Lib Go.ChangeShapes Go.WideShapes
open Go.RowKit (Below)
/-- The list of every row of this seat. -/
abbrev laidAll : List (String × DataW Unit) := Rows.fnNetsRow.laid
theorem laid_plain {W : World} (h : laidMetH Tryz.prog laidAll W) : laidMet Tryz.prog laidAll W := by
  rw [MakeChecks.laidMetH_plain _ _ _ (by kernel_rfl)] at h
  exact h
/-- The table of texts, as a row lists it. -/
def strData {H : Type} (zs : List (List UInt8)) : DataW H := .agg (zs.map fun z => .lit (.string z))
/-- A variable that reads as a list of texts holds them, cell for cell. -/
theorem cells_of_strs {H : Type} {enc : TypeId × Value → H} {P : Program} {w : World} {base : Nat} {sp : Nat → Bool} {held : Bool} {fuel : Nat} {t e : TypeId} {n : Nat} {cs : List Value} {zs : List (List UInt8)} {p : List MemPlace}
    (ht : P.underlying t = some (.array n e)) (he : P.underlying e = some .string) (hce : P.cellsOf e = 1) (hct : P.cellsOf t = n)
    (h : DataW.trod enc P w base sp held fuel t cs = some (strData zs, p)) : cs = zs.map fun z => Value.string ⟨z.toArray⟩ := by
  cases fuel with
  | zero => simp [DataW.trod] at h
  | succ fuel =>
    simp only [DataW.trod, ht, hce, hct, Nat.mul_one] at h
    split at h
    · rename_i hl
      obtain ⟨xs, hm, hx⟩ := Option.map_eq_some_iff.1 h
      have hxs : xs.map (·.1) = zs.map fun z => (DataW.lit (.string z) : DataW H) := by
        have := congrArg Prod.fst hx
        simpa [strData] using this
      have hxl : xs.length = n := by simpa using mapM_length hm
      have hzl : zs.length = n := by
        have := congrArg List.length hxs
        simp at this
        omega
      apply List.ext_getElem?
      intro i
      by_cases hi : i < n
      · obtain ⟨b, hb, hf⟩ := mapM_at hm i i (by simp [hi])
        obtain ⟨z, hc, rfl, _⟩ := DataW.trod_string he hf
        have h1 : cs[i]? = some (.string z) := by
          have := congrArg (·[0]?) hc
          simpa [List.getElem?_take, List.getElem?_drop] using this
        have h2 : (xs.map (·.1))[i]? = some (DataW.lit (.string z.data.toList) : DataW H) := by simp [hb]
        rw [hxs] at h2
        simp only [List.getElem?_map, Option.map_eq_some_iff, DataW.lit.injEq, Lit.string.injEq] at h2
        obtain ⟨z', hz', rfl⟩ := h2
        simp [h1, hz']
      · rw [List.getElem?_eq_none (by omega), List.getElem?_eq_none (by simp; omega)]
    · cases h
theorem gKinds : Tryz.prog.globalNamed "loop.example/g00159/impl.whenTexts" = some 1 := by kernel_rfl
theorem gKindsT : (Tryz.prog.globals[1]?).map (·.type) = some 154 := by kernel_rfl
theorem kinds_laid {W : World} (h : laidMet Tryz.prog laidAll W) : W.var? Tryz.prog "loop.example/g00159/impl.whenTexts" = some (whenP.map fun z => Value.string ⟨z.toArray⟩).toArray := by
  obtain ⟨ps, ⟨g', t', cs, fuel, p, q, hg', ht', hvar, hd, _, _⟩, _⟩ := h.tail.tail.tail.tail.tail.tail
  obtain rfl := Option.some.inj (gKinds.symm.trans hg')
  obtain rfl := Option.some.inj (gKindsT.symm.trans ht')
  rw [hvar, ← cells_of_strs (zs := whenP) Tryz.underlying154 Tryz.underlying9 (by kernel_rfl) (by kernel_rfl) hd]
theorem gPow : Tryz.prog.globalNamed "internal/strconv.uint64pow10" = some 3 := by kernel_rfl
theorem gPowT : (Tryz.prog.globals[3]?).map (·.type) = some 216 := by kernel_rfl
theorem gSyn : Tryz.prog.globalNamed "strconv.ErrSyntax" = some 6 := by kernel_rfl
theorem gSynT : (Tryz.prog.globals[6]?).map (·.type) = some 149 := by kernel_rfl
theorem gRng : Tryz.prog.globalNamed "strconv.ErrRange" = some 7 := by kernel_rfl
theorem gRngT : (Tryz.prog.globals[7]?).map (·.type) = some 149 := by kernel_rfl
theorem tab_laid {W : World} (h : laidMet Tryz.prog laidAll W) : TabIs Tryz.prog W "internal/strconv.uint64pow10" .u64 pow10Tab :=
  tabIs_of_head (rest := laidAll.drop 3) gPow gPowT Tryz.underlying216 Tryz.underlying208 (by kernel_rfl) (by kernel_rfl) h.tail.tail
theorem rowErr (u : TypeId) (h : Tryz.prog.typeName? 3 u = some "*errors.errorString") : u = 244 :=
  typeName_ptr_named (nm := "errors.errorString") (by rw [show "*" ++ "errors.errorString" = "*errors.errorString" by decide]; kernel_rfl) (by kernel_rfl) (by decide) u (by rw [show "*" ++ "errors.errorString" = "*errors.errorString" by decide]; exact h)
/-- What the variables hold, in the own logic's words. -/
def laidG (m : Int) : St := fun g => if g = 3 then some (pow10Tab.map fun z => .int .u64 z) else if g = 2 then some [.int .i64 m] else if g = 6 then some [.iface 244 .undef] else if g = 7 then some [.iface 244 .undef] else if g = 1 then some (strsV whenP) else none
theorem laidG_num (m : Int) : NumG (laidG m) := ⟨rfl, ⟨m, rfl⟩, ⟨_, _, rfl⟩, ⟨_, _, rfl⟩⟩
theorem laidG_kinds (m : Int) : laidG m 1 = some (strsV whenP) := rfl
theorem glob_one {W : World} {O : Nat → Prop} (hO : ∀ b, ¬ O b) {g : Nat} {cs : List V} {arr : Array Value} {t : TypeId} {fz : Nat × Nat} (hh : W.heap[g]? = some (.cells arr t fz)) (hs : arr.size = cs.length)
    (h1 : ∀ (i : Nat) x, cs[i]? = some x → x.one = true) (h2 : ∀ (i : Nat) x v, cs[i]? = some x → arr[i]? = some v → Rep W O x v) :
    Rep W O (.iptr cs) (.pointer (some ⟨g, 0, none⟩)) ∧ ∃ arr t fz, W.heap[g]? = some (.cells arr t fz) ∧ arr.size = cs.length := by
  refine ⟨.iptr cs g 0 (fun i => arr.getD i undef) (lt_of_get hh) (hO g) h1 (fun i x hx => ?_) (fun i x hx => ?_), arr, t, fz, hh, hs⟩
  · have hi : i < arr.size := by rw [hs]; exact (List.getElem?_eq_some_iff.1 hx).1
    simp [World.cell?, hh, hi]
  · have hi : i < arr.size := by rw [hs]; exact (List.getElem?_eq_some_iff.1 hx).1
    exact h2 i x _ hx (by simp [hi])
theorem var_heap {W : World} {n : String} {g : Nat} {cs : Array Value} (hg : Tryz.prog.globalNamed n = some g) (h : W.var? Tryz.prog n = some cs) : ∃ t fz, W.heap[g]? = some (.cells cs t fz) := by
  unfold World.var? at h
  rw [hg] at h
  simp only [Option.bind_some] at h
  split at h
  · rename_i c t fz hh
    obtain rfl := Option.some.inj h
    exact ⟨t, fz, hh⟩
  · cases h
/-- The list of a row tells what the reading of numbers asks for. -/
theorem glob_laid {W : World} (hL : laidMetH Tryz.prog laidAll W) (hsh : W.ShapedOpen Tryz.prog) {O : Nat → Prop} (hO : ∀ b, ¬ O b) : ∃ m, Glob (laidG m) W O := by
  have h := laid_plain hL
  obtain ⟨t0, f0, e0⟩ := var_heap gPow (tab_laid h)
  obtain ⟨a3, s3, e3, _⟩ := laid_sentinel h.tail.tail.tail.tail gRng gRngT Tryz.underlying149 rowErr Tryz.underlying244 Tryz.underlying246 rfl rfl Tryz.underlying9 (by kernel_rfl) (by kernel_rfl)
  obtain ⟨a2, s2, e2, _⟩ := laid_sentinel h.tail.tail.tail.tail.tail gSyn gSynT Tryz.underlying149 rowErr Tryz.underlying244 Tryz.underlying246 rfl rfl Tryz.underlying9 (by kernel_rfl) (by kernel_rfl)
  obtain ⟨t3, f3, e3⟩ := var_heap gRng e3
  obtain ⟨t2, f2, e2⟩ := var_heap gSyn e2
  obtain ⟨t5, f5, e5⟩ := var_heap gKinds (kinds_laid h)
  obtain ⟨m, hm⟩ := cell_of_shapedOpen_int (g := 2) (t := 3) (k := .i64) (zero := #[.int .i64 0]) hsh (of_decide_eq_true (by kernel_rfl)) (by kernel_rfl) rfl (by kernel_rfl) (by kernel_rfl) Tryz.underlying3
  obtain ⟨cs, hh, hs, _⟩ := hsh.1 2 #[.int .i64 0] 3 (of_decide_eq_true (by kernel_rfl)) (by kernel_rfl)
  refine ⟨m, fun g vs hg => ?_⟩
  unfold laidG at hg
  split at hg
  · rename_i hx; subst hx
    obtain rfl := Option.some.inj hg
    refine glob_one hO e0 (by simp) (fun i x hx => ?_) (fun i x v hx hv => ?_)
    · rw [List.getElem?_map, Option.map_eq_some_iff] at hx
      obtain ⟨z, _, rfl⟩ := hx
      rfl
    · rw [List.getElem?_map, Option.map_eq_some_iff] at hx
      obtain ⟨z, hz, rfl⟩ := hx
      rw [List.getElem?_toArray, List.getElem?_map, hz] at hv
      obtain rfl := Option.some.inj hv
      exact .int _ _
  split at hg
  · rename_i hx; subst hx
    obtain rfl := Option.some.inj hg
    refine glob_one hO hh (by simpa using hs) (fun i x hx => ?_) (fun i x v hx hv => ?_)
    · match i with
      | 0 => simp at hx; subst hx; rfl
      | i + 1 => simp at hx
    · match i with
      | 0 =>
        simp at hx; subst hx
        simp only [World.cell?, hh, Option.isSome_none, Bool.false_eq_true, if_false] at hm
        rw [hv] at hm
        obtain rfl := Option.some.inj hm
        exact .int _ _
      | i + 1 => simp at hx
  split at hg
  · rename_i hx; subst hx
    obtain rfl := Option.some.inj hg
    refine glob_one hO e2 rfl (fun i x hx => ?_) (fun i x v hx hv => ?_)
    · match i with
      | 0 => simp at hx; subst hx; rfl
      | i + 1 => simp at hx
    · match i with
      | 0 => simp at hx hv; subst hx hv; exact .iface _ _ _ (.undef _)
      | i + 1 => simp at hx
  split at hg
  · rename_i hx; subst hx
    obtain rfl := Option.some.inj hg
    refine glob_one hO e3 rfl (fun i x hx => ?_) (fun i x v hx hv => ?_)
    · match i with
      | 0 => simp at hx; subst hx; rfl
      | i + 1 => simp at hx
    · match i with
      | 0 => simp at hx hv; subst hx hv; exact .iface _ _ _ (.undef _)
      | i + 1 => simp at hx
  split at hg
  · rename_i hx; subst hx
    obtain rfl := Option.some.inj hg
    refine glob_one hO e5 (by simp [strsV]) (fun i x hx => ?_) (fun i x v hx hv => ?_)
    · unfold strsV at hx
      rw [List.getElem?_map, Option.map_eq_some_iff] at hx
      obtain ⟨z, _, rfl⟩ := hx
      rfl
    · unfold strsV at hx
      rw [List.getElem?_map, Option.map_eq_some_iff] at hx
      obtain ⟨z, hz, rfl⟩ := hx
      rw [List.getElem?_toArray, List.getElem?_map, hz] at hv
      obtain rfl := Option.some.inj hv
      exact .str z
  · cases hg
theorem below_of0 {w w' : World} {O O' : Nat → Prop} (hO : ∀ b, ¬ O b) (h : Keep w w' O O') : Below w.heap.size w w' :=
  ⟨h.io.1, h.io.2.1, h.io.2.2, h.size, fun k hk => h.same k hk (hO k)⟩
theorem own_emp0 (b : Nat) : ¬ own (cup emp emp) b := by simp [own, cup, emp]
/-- A contract over the list of the row, told of the machine. -/
theorem calls_laid {f : FuncId} {args : List V} {r : V} (h : ∀ Γ, NumG Γ → Γ 1 = some (strsV whenP) → Ret Tryz.prog Γ f args emp r emp) {w : World} (hL : laidMetH Tryz.prog laidAll w) (hsh : w.ShapedOpen Tryz.prog) {cargs : Array Value} (ha : RepL w (own (cup emp emp)) args cargs) :
    Calls Tryz.prog f cargs w fun e w' => (∃ v, e = .returned v ∧ Rep w' (own (cup emp emp)) r v) ∧ Below w.heap.size w w' := by
  obtain ⟨m, hgl⟩ := glob_laid hL hsh own_emp0
  refine ((h _ (laidG_num m) (laidG_kinds m)).2 emp w cargs (disj_emp _) (fun b cs hb => by simp [cup, emp] at hb) hgl ha).mono ?_
  rintro e w' ⟨r', v, s, rfl, ⟨rfl, rfl⟩, p1, p2, p3, p4⟩
  exact ⟨⟨v, rfl, p3⟩, below_of0 own_emp0 p4⟩
end Go.Proofs.YtjibkkhgejcjeaaGreatDoor.Lg
