/- What is told of the functions that are reached, as far as it is asked here. -/
import Derived.Test.YtabelcohkpmpnaaKz1
import Derived.KernelRfl
set_option linter.unusedSimpArgs false
set_option linter.unusedVariables false
namespace Go.Proofs.Ytabelcohkpmpnaa.Lg
open Go
section
structure Rt where
  via : Int
  pref : Int
  len : Int
  mark : Bool
  deriving DecidableEq, Inhabited
def noRt : Rt := ⟨-3, 0, 0, false⟩
def rtC (r : Rt) : List V := [.int .i64 r.via, .int .i64 r.pref, .int .i64 r.len, .bool r.mark]
def rtsV (rs : List Rt) : List V := rs.map fun r => .agg (rtC r)
def rtAt (rs : List Rt) (k : Int) : Rt := rs.getD k.toNat default
/-- Where a packet ends, and its way. -/
def walkGo (n : Net) (rs : List Rt) (port : Int) : Nat → Int → List Int → Int × List Int
  | 0, _, path => (3, path)
  | m + 1, at_, path =>
    if (rtAt rs at_).via = -2 then (1, path) else if (rtAt rs at_).via = -1 then (2, path) else if (rtAt rs at_).via = -3 then (3, path)
    else if n.filters.any (filtB at_ (rtAt rs at_).via port) then (4, path) else walkGo n rs port m (rtAt rs at_).via (path ++ [(rtAt rs at_).via])
def walkP (n : Net) (rs : List Rt) (from_ port : Int) : Int × List Int := walkGo n rs port rs.length from_ [from_]
/-- A route is right for a router. -/
def rtB (n : Net) (i : Nat) (r : Rt) : Bool := inB r.via (-3) (n.routers.length - 1) && inB r.pref 0 1000 && inB r.len 0 10000 && (decide (r.via < 0) || decide (0 ≤ linkP n.links i r.via)) && (!decide (r.via = -3) || decide (r = noRt))
def rtsB (n : Net) (rs : List Rt) : Bool := decide (rs.length = n.routers.length) && (List.range rs.length).all fun i => rtB n i (rs.getD i default)
end
section
/-- What a right network says of its parts. -/
structure NetR (n : Net) : Prop where
  r1 : 1 ≤ n.routers.length
  r4 : n.routers.length ≤ 4
  l6 : n.links.length ≤ 6
  i12 : n.imports.length ≤ 12
  f6 : n.filters.length ≤ 6
  x2 : n.externals.length ≤ 2
  cost : ∀ l ∈ n.links, 1 ≤ l.cost ∧ l.cost ≤ 100
  ends : ∀ l ∈ n.links, (0 ≤ l.a ∧ l.a < n.routers.length) ∧ (0 ≤ l.b ∧ l.b < n.routers.length)
  imp : ∀ x ∈ n.imports, 0 ≤ x.n ∧ x.n ≤ 1000
theorem netR_of {n : Net} (h : netB n = true) : NetR n := by
  simp only [netB, Bool.and_eq_true, decide_eq_true_eq, List.all_eq_true] at h
  obtain ⟨⟨⟨⟨⟨⟨⟨⟨⟨⟨⟨h1, h2⟩, h3⟩, h4⟩, h5⟩, h6⟩, h7⟩, h8⟩, h9⟩, h10⟩, h11⟩, h12⟩ := h
  have hlk : ∀ l ∈ n.links, (1 ≤ l.cost ∧ l.cost ≤ 100) ∧ (0 ≤ l.a ∧ l.a < n.routers.length) ∧ (0 ≤ l.b ∧ l.b < n.routers.length) := by
    intro l hl
    obtain ⟨i, hi, rfl⟩ := List.getElem_of_mem hl
    have := h7 i (List.mem_range.2 hi)
    simp only [linkAt, List.getD, List.getElem?_eq_getElem hi, Option.getD_some, routerB, inB, Bool.and_eq_true, decide_eq_true_eq] at this
    omega
  refine ⟨h1, h2, h3, h4, h5, h12, fun l hl => (hlk l hl).1, fun l hl => (hlk l hl).2, fun x hx => ?_⟩
  have := h8 x hx
  simp only [impOn, impB, inB, Bool.and_eq_true, decide_eq_true_eq] at this
  have := this.2.2
  split at this <;> omega
/-- A way that ends: after so many steps it is at no router. -/
def ends (rs : List Rt) : Nat → Int → Prop
  | 0, k => k < 0
  | m + 1, k => k < 0 ∨ ends rs m (rtAt rs k).via
theorem ends.succ {rs : List Rt} : ∀ {m : Nat} {k : Int}, ends rs m k → ends rs (m + 1) k := by
  intro m
  induction m with
  | zero => intro k h; exact .inl h
  | succ m ih => intro k h; exact h.imp_right ih
theorem ends.le {rs : List Rt} {m m' : Nat} {k : Int} (h : ends rs m k) (hm : m ≤ m') : ends rs m' k := by
  induction hm with
  | refl => exact h
  | step _ ih => exact ih.succ
end
end Go.Proofs.Ytabelcohkpmpnaa.Lg
