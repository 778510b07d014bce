/- What the package's variables hold when a call begins, out of a row's list. -/
import Derived.Test.YtlojopaebdnacaaDoorRows
import Derived.Test.YtlojopaebdnacaaDoorBc
import Derived.Stop.LaidErr
import Derived.Shelf.Vars
import Derived.MakeChecks
import Derived.Lay
import Derived.Lib.LaidTab
set_option linter.unusedSimpArgs false
set_option linter.unusedVariables false
namespace Go.Proofs.YtlojopaebdnacaaDoor.Lg
open Go Go.Lib Go.ChangeShapes Go.WideShapes
open Go.RowKit (Below)
/-- The list of every row of this seat. -/
abbrev laidAll : List (String × DataW Unit) := Rows.fnExactReadProofRow.laid
theorem laid_plain {W : World} (h : laidMetH Tryd.prog laidAll W) : laidMet Tryd.prog laidAll W := by
  rw [MakeChecks.laidMetH_plain _ _ _ (by kernel_rfl)] at h
  exact h
theorem gPow : Tryd.prog.globalNamed "internal/strconv.uint64pow10" = some 0 := by kernel_rfl
theorem gPowT : (Tryd.prog.globals[0]?).map (·.type) = some 144 := by kernel_rfl
theorem gSyn : Tryd.prog.globalNamed "strconv.ErrSyntax" = some 2 := by kernel_rfl
theorem gSynT : (Tryd.prog.globals[2]?).map (·.type) = some 51 := by kernel_rfl
theorem gRng : Tryd.prog.globalNamed "strconv.ErrRange" = some 3 := by kernel_rfl
theorem gRngT : (Tryd.prog.globals[3]?).map (·.type) = some 51 := by kernel_rfl
theorem tab_laid {W : World} (h : laidMet Tryd.prog laidAll W) : TabIs Tryd.prog W "internal/strconv.uint64pow10" .u64 pow10Tab :=
  tabIs_of_head (rest := laidAll.drop 3) gPow gPowT Tryd.underlying144 Tryd.underlying132 (by kernel_rfl) (by kernel_rfl) h.tail.tail
theorem rowErr (u : TypeId) (h : Tryd.prog.typeName? 3 u = some "*errors.errorString") : u = 176 :=
  typeName_ptr_named (nm := "errors.errorString") (by rw [show "*" ++ "errors.errorString" = "*errors.errorString" by decide]; kernel_rfl) (by kernel_rfl) (by decide) u (by rw [show "*" ++ "errors.errorString" = "*errors.errorString" by decide]; exact h)
/-- What the variables hold, in the own logic's words. -/
def laidG (m : Int) : St := fun g => if g = 0 then some (pow10Tab.map fun z => .int .u64 z) else if g = 1 then some [.int .i64 m] else if g = 2 then some [.iface 176 .undef] else if g = 3 then some [.iface 176 .undef] else none
theorem laidG_num (m : Int) : NumG (laidG m) := ⟨rfl, ⟨m, rfl⟩, ⟨_, _, rfl⟩, ⟨_, _, rfl⟩⟩
theorem glob_one {W : World} {O : Nat → Prop} (hO : ∀ b, ¬ O b) {g : Nat} {cs : List V} {arr : Array Value} {t : TypeId} {fz : Nat × Nat} (hh : W.heap[g]? = some (.cells arr t fz)) (hs : arr.size = cs.length)
    (h1 : ∀ (i : Nat) x, cs[i]? = some x → x.one = true) (h2 : ∀ (i : Nat) x v, cs[i]? = some x → arr[i]? = some v → Rep W O x v) :
    Rep W O (.iptr cs) (.pointer (some ⟨g, 0, none⟩)) ∧ ∃ arr t fz, W.heap[g]? = some (.cells arr t fz) ∧ arr.size = cs.length := by
  refine ⟨.iptr cs g 0 (fun i => arr.getD i undef) (lt_of_get hh) (hO g) h1 (fun i x hx => ?_) (fun i x hx => ?_), arr, t, fz, hh, hs⟩
  · have hi : i < arr.size := by rw [hs]; exact (List.getElem?_eq_some_iff.1 hx).1
    simp [World.cell?, hh, hi]
  · have hi : i < arr.size := by rw [hs]; exact (List.getElem?_eq_some_iff.1 hx).1
    exact h2 i x _ hx (by simp [hi])
theorem var_heap {W : World} {n : String} {g : Nat} {cs : Array Value} (hg : Tryd.prog.globalNamed n = some g) (h : W.var? Tryd.prog n = some cs) : ∃ t fz, W.heap[g]? = some (.cells cs t fz) := by
  unfold World.var? at h
  rw [hg] at h
  simp only [Option.bind_some] at h
  split at h
  · rename_i c t fz hh
    obtain rfl := Option.some.inj h
    exact ⟨t, fz, hh⟩
  · cases h
/-- The list of a row tells what the reading of numbers asks for. -/
theorem glob_laid {W : World} (hL : laidMetH Tryd.prog laidAll W) (hsh : W.ShapedOpen Tryd.prog) {O : Nat → Prop} (hO : ∀ b, ¬ O b) : ∃ m, Glob (laidG m) W O := by
  have h := laid_plain hL
  obtain ⟨t0, f0, e0⟩ := var_heap gPow (tab_laid h)
  obtain ⟨a3, s3, e3, _⟩ := laid_sentinel h.tail.tail.tail.tail gRng gRngT Tryd.underlying51 rowErr Tryd.underlying176 Tryd.underlying178 rfl rfl Tryd.underlying9 (by kernel_rfl) (by kernel_rfl)
  obtain ⟨a2, s2, e2, _⟩ := laid_sentinel h.tail.tail.tail.tail.tail gSyn gSynT Tryd.underlying51 rowErr Tryd.underlying176 Tryd.underlying178 rfl rfl Tryd.underlying9 (by kernel_rfl) (by kernel_rfl)
  obtain ⟨t3, f3, e3⟩ := var_heap gRng e3
  obtain ⟨t2, f2, e2⟩ := var_heap gSyn e2
  obtain ⟨m, hm⟩ := cell_of_shapedOpen_int (g := 1) (t := 3) (k := .i64) (zero := #[.int .i64 0]) hsh (of_decide_eq_true (by kernel_rfl)) (by kernel_rfl) rfl (by kernel_rfl) (by kernel_rfl) Tryd.underlying3
  obtain ⟨cs, hh, hs, _⟩ := hsh.1 1 #[.int .i64 0] 3 (of_decide_eq_true (by kernel_rfl)) (by kernel_rfl)
  refine ⟨m, fun g vs hg => ?_⟩
  unfold laidG at hg
  split at hg
  · rename_i hx; subst hx
    obtain rfl := Option.some.inj hg
    refine glob_one hO e0 (by simp) (fun i x hx => ?_) (fun i x v hx hv => ?_)
    · rw [List.getElem?_map, Option.map_eq_some_iff] at hx
      obtain ⟨z, _, rfl⟩ := hx
      rfl
    · rw [List.getElem?_map, Option.map_eq_some_iff] at hx
      obtain ⟨z, hz, rfl⟩ := hx
      rw [List.getElem?_toArray, List.getElem?_map, hz] at hv
      obtain rfl := Option.some.inj hv
      exact .int _ _
  split at hg
  · rename_i hx; subst hx
    obtain rfl := Option.some.inj hg
    refine glob_one hO hh (by simpa using hs) (fun i x hx => ?_) (fun i x v hx hv => ?_)
    · match i with
      | 0 => simp at hx; subst hx; rfl
      | i + 1 => simp at hx
    · match i with
      | 0 =>
        simp at hx; subst hx
        simp only [World.cell?, hh, Option.isSome_none, Bool.false_eq_true, if_false] at hm
        rw [hv] at hm
        obtain rfl := Option.some.inj hm
        exact .int _ _
      | i + 1 => simp at hx
  split at hg
  · rename_i hx; subst hx
    obtain rfl := Option.some.inj hg
    refine glob_one hO e2 rfl (fun i x hx => ?_) (fun i x v hx hv => ?_)
    · match i with
      | 0 => simp at hx; subst hx; rfl
      | i + 1 => simp at hx
    · match i with
      | 0 => simp at hx hv; subst hx hv; exact .iface _ _ _ (.undef _)
      | i + 1 => simp at hx
  split at hg
  · rename_i hx; subst hx
    obtain rfl := Option.some.inj hg
    refine glob_one hO e3 rfl (fun i x hx => ?_) (fun i x v hx hv => ?_)
    · match i with
      | 0 => simp at hx; subst hx; rfl
      | i + 1 => simp at hx
    · match i with
      | 0 => simp at hx hv; subst hx hv; exact .iface _ _ _ (.undef _)
      | i + 1 => simp at hx
  · cases hg
theorem below_of0 {w w' : World} {O O' : Nat → Prop} (hO : ∀ b, ¬ O b) (h : Keep w w' O O') : Below w.heap.size w w' :=
  ⟨h.io.1, h.io.2.1, h.io.2.2, h.size, fun k hk => h.same k hk (hO k)⟩
theorem own_emp0 (b : Nat) : ¬ own (cup emp emp) b := by simp [own, cup, emp]
/-- A contract over the list of the row, told of the machine. -/
theorem calls_laid {f : FuncId} {args : List V} {r : V} (h : ∀ Γ, NumG Γ → Ret Tryd.prog Γ f args emp r emp) {w : World} (hL : laidMetH Tryd.prog laidAll w) (hsh : w.ShapedOpen Tryd.prog) {cargs : Array Value} (ha : RepL w (own (cup emp emp)) args cargs) :
    Calls Tryd.prog f cargs w fun e w' => (∃ v, e = .returned v ∧ Rep w' (own (cup emp emp)) r v) ∧ Below w.heap.size w w' := by
  obtain ⟨m, hgl⟩ := glob_laid hL hsh own_emp0
  refine ((h _ (laidG_num m)).2 emp w cargs (disj_emp _) (fun b cs hb => by simp [cup, emp] at hb) hgl ha).mono ?_
  rintro e w' ⟨r', v, s, rfl, ⟨rfl, rfl⟩, p1, p2, p3, p4⟩
  exact ⟨⟨v, rfl, p3⟩, below_of0 own_emp0 p4⟩
end Go.Proofs.YtlojopaebdnacaaDoor.Lg
