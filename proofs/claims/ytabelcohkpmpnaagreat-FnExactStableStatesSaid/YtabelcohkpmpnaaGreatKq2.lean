/- What is told of the functions that are reached, as far as it is asked here. -/
import Derived.Test.YtabelcohkpmpnaaGreatKq1
import Derived.KernelRfl
set_option linter.unusedSimpArgs false
set_option linter.unusedVariables false
namespace Go.Proofs.YtabelcohkpmpnaaGreat.Lg
open Go
section
structure Rt where
 via : Int
 pref : Int
 len : Int
 mark : Bool
 deriving DecidableEq, Inhabited
def noRt : Rt := ⟨-3, 0, 0, false⟩
def rtC (r : Rt) : List V := [.int .i64 r.via, .int .i64 r.pref, .int .i64 r.len, .bool r.mark]
def rtsV (rs : List Rt) : List V := rs.map fun r => .agg (rtC r)
def rtAt (rs : List Rt) (k : Int) : Rt := rs.getD k.toNat default
/-- Whether the way from a router comes to another one, in so many steps, or does not end. -/
def thr (rs : List Rt) (router : Int) : Nat → Int → Bool
 | 0, _ => true
 | m + 1, k => if k = router then true else if k < 0 then false else if (rtAt rs k).via < 0 then false else thr rs router m (rtAt rs k).via
def throughP (rs : List Rt) (from_ router : Int) : Bool := thr rs router (rs.length + 1) from_
def impSkip (router from_ : Int) (x : Imp) (r : Rt) : Bool := !decide (x.at_ = router) || !decide (x.from_ = from_) || (decide (x.when_ = 1) && !r.mark) || (decide (x.when_ = 2) && r.mark)
def impGo (router from_ : Int) : List Imp → Rt → Option Rt
 | [], r => some r
 | x :: xs, r => if impSkip router from_ x r then impGo router from_ xs r else
   if x.do_ = 1 then none else if x.do_ = 2 then impGo router from_ xs { r with pref := x.n } else impGo router from_ xs { r with mark := decide (x.do_ = 3) }
def linkAtP (n : Net) (a b : Int) : Link := n.links.getD (linkP n.links a b).toNat default
def importO (n : Net) (router from_ : Int) (r : Rt) : Option Rt := impGo router from_ n.imports ⟨from_, 100, r.len + (linkAtP n router from_).cost, r.mark⟩
def hasI (xs : List Int) (x : Int) : Int := firstP (fun y => decide (y = x)) xs
def nearB (n : Net) (router : Int) (down : List Bool) (k : Nat) : Bool := decide (0 ≤ linkP n.links router k) && !down.getD (linkP n.links router k).toNat false
def nearP (n : Net) (router : Int) (down : List Bool) : List Int := ((List.range n.routers.length).filter (nearB n router down)).map fun (k : Nat) => (k : Int)
def ownL (n : Net) (router : Int) : List Rt := if 0 ≤ hasI n.origins router then [⟨-2, 200, 0, false⟩] else []
def outB (n : Net) (router : Int) (env : List Int) : Bool := decide (0 ≤ hasI n.externals router) && decide (0 < env.getD (hasI n.externals router).toNat 0)
def outL (n : Net) (router : Int) (env : List Int) : List Rt := if outB n router env then [⟨-1, 100, 2, decide (env.getD (hasI n.externals router).toNat 0 = 2)⟩] else []
def viaO (n : Net) (router : Int) (rs : List Rt) (v : Int) : Option Rt := if (rtAt rs v).via = -3 ∨ throughP rs v router then none else importO n router v (rtAt rs v)
def candP (n : Net) (router : Int) (env : List Int) (down : List Bool) (rs : List Rt) : List Rt :=
 ownL n router ++ outL n router env ++ (nearP n router down).filterMap (viaO n router rs)
def betterP (a b : Rt) : Bool := if a.pref ≠ b.pref then decide (b.pref < a.pref) else if a.len ≠ b.len then decide (a.len < b.len) else decide (a.via < b.via)
def bestStep (o r : Rt) : Rt := if o.via = -3 ∨ betterP r o then r else o
def bestP (l : List Rt) : Rt := l.foldl bestStep noRt
def ofStep (n : Net) (env : List Int) (down : List Bool) (vias : List Int) (s : List Rt × List Bool) (i : Nat) : Option (List Rt × List Bool) :=
 if s.2.getD i false ∨ (0 ≤ vias.getD i 0 ∧ s.2.getD (vias.getD i 0).toNat false = false) then some s
 else if vias.getD i 0 = -3 then some (s.1, s.2.set i true)
 else match ((candP n i env down s.1).filter fun r => decide (r.via = vias.getD i 0)).getLast? with
  | none => none
  | some r => some (s.1.set i r, s.2.set i true)
def ofRound (n : Net) (env : List Int) (down : List Bool) (vias : List Int) (s : List Rt × List Bool) : Option (List Rt × List Bool) := (List.range vias.length).foldlM (ofStep n env down vias) s
def ofP (n : Net) (env : List Int) (down : List Bool) (vias : List Int) : Option (List Rt) :=
 ((List.range (vias.length + 1)).foldlM (fun s _ => ofRound n env down vias s) (List.replicate vias.length noRt, List.replicate vias.length false)).bind fun s => if s.2.all id then some s.1 else none
def stableB (n : Net) (env : List Int) (down : List Bool) (rs : List Rt) : Bool := (List.range rs.length).all fun i => decide (bestP (candP n i env down rs) = rs.getD i default)
def optL (n : Net) (router : Int) (env : List Int) : List Int :=
 (if 0 ≤ hasI n.origins router then [-2] else []) ++ (if outB n router env then [-1] else [])
def optP (n : Net) (router : Int) (env : List Int) (down : List Bool) : List Int :=
 (if optL n router env = [] then [-3] else optL n router env) ++ nearP n router down
def growP (n : Net) (env : List Int) (down : List Bool) (out : List (List Int)) (i : Nat) : List (List Int) := out.flatMap fun c => (optP n i env down).map fun v => c ++ [v]
def choiceP (n : Net) (env : List Int) (down : List Bool) : List (List Int) := (List.range n.routers.length).foldl (growP n env down) [[]]
def stateO (n : Net) (env : List Int) (down : List Bool) (vs : List Int) : Option (List Rt) := (ofP n env down vs).bind fun rs => if stableB n env down rs then some rs else none
def statesP (n : Net) (env : List Int) (down : List Bool) : List (List Rt) := (choiceP n env down).filterMap (stateO n env down)
/-- What is around a network is right. -/
def envB (n : Net) (env : List Int) (down : List Bool) : Bool := decide (env.length = n.externals.length) && decide (down.length = n.links.length) && env.all fun x => inB x 0 2
def envCode (n : Net) (env : List Int) (down : List Bool) : Int :=
 if 4096 < env.length ∨ 4096 < down.length then 2 else if netB n = false then 1 else if envB n env down then 0 else 5
end
section
theorem foldlM_mem {α β : Type} {f : β → α → Option β} {I : β → Prop} : ∀ {l : List α} {s t : β}, (∀ s a t, a ∈ l → I s → f s a = some t → I t) → I s → l.foldlM f s = some t → I t := by
 intro l
 induction l with
 | nil => intro s t hf h e; simp at e; subst e; exact h
 | cons a r ih =>
  intro s t hf h e
  rw [List.foldlM_cons, Option.bind_eq_bind, Option.bind_eq_some_iff] at e
  obtain ⟨u, h1, h2⟩ := e
  exact ih (fun s b t hb => hf s b t (by simp [hb])) (hf s a u (by simp) h h1) h2
/-- A route that a router may have, no longer than told. -/
structure RtIn (n : Net) (down : List Bool) (L : Int) (i : Nat) (r : Rt) : Prop where
 via : -3 ≤ r.via ∧ r.via < n.routers.length
 pref : 0 ≤ r.pref ∧ r.pref ≤ 1000
 len : 0 ≤ r.len ∧ r.len ≤ L
 link : 0 ≤ r.via → 0 ≤ linkP n.links i r.via ∧ down.getD (linkP n.links i r.via).toNat false = false
 none : r.via = -3 → r = noRt
theorem RtIn.mono {n : Net} {down : List Bool} {L M : Int} {i : Nat} {r : Rt} (h : RtIn n down L i r) (hl : L ≤ M) : RtIn n down M i r :=
 ⟨h.via, h.pref, ⟨h.len.1, Int.le_trans h.len.2 hl⟩, h.link, h.none⟩
theorem noRt_in (n : Net) (down : List Bool) {L : Int} (hL : 0 ≤ L) (i : Nat) : RtIn n down L i noRt :=
 ⟨⟨by simp [noRt], by simp [noRt]; omega⟩, by simp [noRt], by simp [noRt]; omega, by simp [noRt], fun _ => rfl⟩
/-- What a right network says of its parts. -/
structure NetR (n : Net) : Prop where
 r1 : 1 ≤ n.routers.length
 r4 : n.routers.length ≤ 4
 l6 : n.links.length ≤ 6
 i12 : n.imports.length ≤ 12
 f6 : n.filters.length ≤ 6
 x2 : n.externals.length ≤ 2
 cost : ∀ l ∈ n.links, 1 ≤ l.cost ∧ l.cost ≤ 100
 ends : ∀ l ∈ n.links, (0 ≤ l.a ∧ l.a < n.routers.length) ∧ (0 ≤ l.b ∧ l.b < n.routers.length)
 imp : ∀ x ∈ n.imports, 0 ≤ x.n ∧ x.n ≤ 1000
theorem netR_of {n : Net} (h : netB n = true) : NetR n := by
 simp only [netB, Bool.and_eq_true, decide_eq_true_eq, List.all_eq_true] at h
 obtain ⟨⟨⟨⟨⟨⟨⟨⟨⟨⟨⟨h1, h2⟩, h3⟩, h4⟩, h5⟩, h6⟩, h7⟩, h8⟩, h9⟩, h10⟩, h11⟩, h12⟩ := h
 have hlk : ∀ l ∈ n.links, (1 ≤ l.cost ∧ l.cost ≤ 100) ∧ (0 ≤ l.a ∧ l.a < n.routers.length) ∧ (0 ≤ l.b ∧ l.b < n.routers.length) := by
  intro l hl
  obtain ⟨i, hi, rfl⟩ := List.getElem_of_mem hl
  have := h7 i (List.mem_range.2 hi)
  simp only [linkAt, List.getD, List.getElem?_eq_getElem hi, Option.getD_some, routerB, inB, Bool.and_eq_true, decide_eq_true_eq] at this
  omega
 refine ⟨h1, h2, h3, h4, h5, h12, fun l hl => (hlk l hl).1, fun l hl => (hlk l hl).2, fun x hx => ?_⟩
 have := h8 x hx
 simp only [impOn, impB, inB, Bool.and_eq_true, decide_eq_true_eq] at this
 have := this.2.2
 split at this <;> omega
theorem impGo_in {router from_ : Int} : ∀ {xs : List Imp} {r s : Rt}, (∀ x ∈ xs, 0 ≤ x.n ∧ x.n ≤ 1000) → impGo router from_ xs r = some s → (0 ≤ r.pref ∧ r.pref ≤ 1000) → s.via = r.via ∧ s.len = r.len ∧ 0 ≤ s.pref ∧ s.pref ≤ 1000 := by
 intro xs
 induction xs with
 | nil => intro r s _ h hp; simp [impGo] at h; subst h; exact ⟨rfl, rfl, hp⟩
 | cons x xs ih =>
  intro r s hx h hp
  have hx' := fun y hy => hx y (List.mem_cons_of_mem x hy)
  have h0 := hx x (by simp)
  simp only [impGo] at h
  split at h
  ·exact ih hx' h hp
  split at h
  ·cases h
  split at h
  ·have := ih hx' h (by exact h0)
   exact this
  ·have := ih hx' h (by exact hp)
   exact this
theorem near_mem {n : Net} {i : Int} {down : List Bool} {v : Int} (h : v ∈ nearP n i down) : 0 ≤ v ∧ v < n.routers.length ∧ 0 ≤ linkP n.links i v ∧ down.getD (linkP n.links i v).toNat false = false := by
 simp only [nearP, List.mem_map, List.mem_filter, List.mem_range, nearB, Bool.and_eq_true, decide_eq_true_eq, Bool.not_eq_true'] at h
 obtain ⟨k, ⟨h1, h2, h3⟩, rfl⟩ := h
 exact ⟨by omega, by omega, h2, h3⟩
theorem linkP_lt {ls : List Link} {a b : Int} : linkP ls a b < ls.length := by
 unfold linkP firstP
 cases h : ls.findIdx? (joinB a b) with
 | none => simp; omega
 | some i => have := List.findIdx?_eq_some_iff_findIdx_eq.1 h; simp; omega
theorem cost_in {n : Net} (hn : NetR n) {a b : Int} (h : 0 ≤ linkP n.links a b) : 1 ≤ (linkAtP n a b).cost ∧ (linkAtP n a b).cost ≤ 100 := by
 have hl := linkP_lt (ls := n.links) (a := a) (b := b)
 have hi : (linkP n.links a b).toNat < n.links.length := by omega
 unfold linkAtP
 rw [List.getD_eq_getElem?_getD, List.getElem?_eq_getElem hi]
 exact hn.cost _ (List.getElem_mem hi)
/-- What a router could have is right, a link longer than what its neighbours have. -/
theorem cand_in {n : Net} (hn : NetR n) {env : List Int} {down : List Bool} {rs : List Rt} {L : Int} (hL : 2 ≤ L) (hrs : ∀ v, 0 ≤ (rtAt rs v).len ∧ (rtAt rs v).len ≤ L) {i : Nat} {r : Rt} (h : r ∈ candP n i env down rs) :
  RtIn n down (L + 100) i r ∧ r.via ≠ -3 ∧ (0 ≤ r.via → r.via ∈ nearP n i down ∧ (rtAt rs r.via).via ≠ -3 ∧ throughP rs r.via i = false) := by
 simp only [candP, List.mem_append, List.mem_filterMap] at h
 rcases h with (h | h) | ⟨v, hv, h⟩
 ·simp only [ownL] at h
  split at h
  ·simp at h; subst h; exact ⟨⟨⟨by simp, by simp; omega⟩, by simp, by simp; omega, by simp, by simp⟩, by simp, by simp⟩
  ·cases h
 ·simp only [outL] at h
  split at h
  ·simp at h; subst h; exact ⟨⟨⟨by simp, by simp; omega⟩, by simp, by simp; omega, by simp, by simp⟩, by simp, by simp⟩
  ·cases h
 ·obtain ⟨n1, n2, n3, n4⟩ := near_mem hv
  unfold viaO at h
  split at h
  ·cases h
  rename_i hno
  simp only [not_or, Bool.not_eq_true] at hno
  have hc := cost_in hn n3
  have hv2 := hrs v
  obtain ⟨e1, e2, e3, e4⟩ := impGo_in hn.imp h (by simp)
  simp only at e1 e2
  refine ⟨⟨⟨by omega, by omega⟩, ⟨e3, e4⟩, ⟨by omega, by omega⟩, fun _ => by rw [e1]; exact ⟨n3, n4⟩, fun h3 => by omega⟩, by omega, fun _ => by rw [e1]; exact ⟨hv, hno.1, hno.2⟩⟩
/-- A way that ends: after so many steps it is at no router. -/
def ends (rs : List Rt) : Nat → Int → Prop
 | 0, k => k < 0
 | m + 1, k => k < 0 ∨ ends rs m (rtAt rs k).via
theorem ends.succ {rs : List Rt} : ∀ {m : Nat} {k : Int}, ends rs m k → ends rs (m + 1) k := by
 intro m
 induction m with
 | zero => intro k h; exact .inl h
 | succ m ih => intro k h; exact h.imp_right ih
theorem ends.le {rs : List Rt} {m m' : Nat} {k : Int} (h : ends rs m k) (hm : m ≤ m') : ends rs m' k := by
 induction hm with
 | refl => exact h
 | step _ ih => exact ih.succ
def doneAt (d : List Bool) (k : Int) : Bool := d.getD k.toNat false
/-- What is kept while routes are worked out. -/
structure OfI (n : Net) (down : List Bool) (s : List Rt × List Bool) : Prop where
 len : s.1.length = s.2.length
 ok : ∀ i, i < s.1.length → RtIn n down (2 + 100 * (s.2.count true : Nat)) i (s.1.getD i default)
 shut : ∀ i : Nat, s.2.getD i false = true → 0 ≤ (s.1.getD i default).via → doneAt s.2 (s.1.getD i default).via = true
 ends : ∀ i : Nat, s.2.getD i false = true → ends s.1 (s.2.count true) i
 none : ∀ i : Nat, i < s.1.length → s.2.getD i false = false → s.1.getD i default = noRt
theorem count_set {d : List Bool} {i : Nat} (hi : i < d.length) (h : d.getD i false = false) : (d.set i true).count true = d.count true + 1 := by
 induction d generalizing i with
 | nil => simp at hi
 | cons a r ih =>
  cases i with
  | zero =>
   simp at h
   subst h
   simp
  | succ i =>
   simp at hi h
   simp only [List.set_cons_succ, List.count_cons]
   rw [ih hi (by simpa using h)]
   omega
theorem getD_set_same {α : Type} {l : List α} {i : Nat} {x d : α} (hi : i < l.length) : (l.set i x).getD i d = x := by simp [List.getD, hi]
theorem getD_set_ne {α : Type} {l : List α} {i j : Nat} {x d : α} (hij : j ≠ i) : (l.set i x).getD j d = l.getD j d := by
 simp only [List.getD, List.getElem?_set_ne (fun e => hij e.symm)]
theorem ends_set {rs : List Rt} {d : List Bool} {i : Nat} {r : Rt} (hd : d.getD i false = false) (hs : ∀ j : Nat, d.getD j false = true → 0 ≤ (rs.getD j default).via → doneAt d (rs.getD j default).via = true) : ∀ {m : Nat} {k : Nat}, d.getD k false = true → ends rs m k → ends (rs.set i r) m k := by
 intro m
 induction m with
 | zero => intro k _ h; exact h
 | succ m ih =>
  intro k hk h
  rcases h with h | h
  ·exact .inl h
  ·right
   have hki : k ≠ i := fun e => by subst e; rw [hk] at hd; cases hd
   have e1 : rtAt (rs.set i r) (k : Int) = rs.getD k default := by simp only [rtAt, Int.toNat_natCast]; exact getD_set_ne hki
   have e2 : rtAt rs (k : Int) = rs.getD k default := by simp only [rtAt, Int.toNat_natCast]
   rw [e1]
   rw [e2] at h
   by_cases hv : 0 ≤ (rs.getD k default).via
   ·have h1 := hs k hk hv
    obtain ⟨v, hv2⟩ : ∃ v : Nat, (rs.getD k default).via = v := ⟨(rs.getD k default).via.toNat, by omega⟩
    rw [hv2] at h h1 ⊢
    exact ih h1 h
   ·cases m with
    | zero => exact (by omega : (rs.getD k default).via < 0)
    | succ m => exact .inl (by omega)
theorem ofStep_inv {n : Net} (hn : NetR n) {env : List Int} {down : List Bool} {vias : List Int} {s t : List Rt × List Bool} {i : Nat} (hi : i < s.1.length) (h : OfI n down s) (e : ofStep n env down vias s i = some t) : OfI n down t ∧ t.1.length = s.1.length := by
 unfold ofStep at e
 split at e
 ·cases e; exact ⟨h, rfl⟩
 rename_i hno
 simp only [not_or, not_and, Bool.not_eq_true, Bool.not_eq_false] at hno
 obtain ⟨hd, hv⟩ := hno
 have hcount := count_set (by rw [← h.len]; exact hi) hd
 have hlen := h.len
 have hinr : ∀ v, 0 ≤ (rtAt s.1 v).len ∧ (rtAt s.1 v).len ≤ 2 + 100 * (s.2.count true : Nat) := by
  intro v
  by_cases hvl : v.toNat < s.1.length
  ·have := (h.ok _ hvl).len; exact this
  ·have : rtAt s.1 v = default := by simp [rtAt, List.getD, show s.1.length ≤ v.toNat by omega]
   rw [this]; exact ⟨Int.le_refl _, by show (0 : Int) ≤ _; omega⟩
 -- a new route, whose neighbour is done
 have main : ∀ r : Rt, RtIn n down (2 + 100 * (s.2.count true : Nat) + 100) i r → (0 ≤ r.via → doneAt s.2 r.via = true) → OfI n down (s.1.set i r, s.2.set i true) := by
  intro r hr hvd
  refine ⟨by simp [hlen], fun j hj => ?_, fun j hj hv2 => ?_, fun j hj => ?_, fun j hj hjd => ?_⟩
  ·simp only [List.length_set] at hj
   rw [hcount]
   by_cases e : j = i
   ·subst e
    rw [getD_set_same hi]
    exact hr.mono (by simp only [Int.natCast_add]; omega)
   ·rw [getD_set_ne e]
    exact (h.ok j hj).mono (by simp only [Int.natCast_add]; omega)
  ·by_cases e : j = i
   ·subst e
    simp only at hv2 ⊢
    rw [getD_set_same hi] at hv2 ⊢
    have := hvd hv2
    unfold doneAt at this ⊢
    by_cases e2 : r.via.toNat = j
    ·rw [e2, getD_set_same (by omega)]
    ·rw [getD_set_ne e2]; exact this
   ·simp only at hv2 hj ⊢
    rw [getD_set_ne e] at hv2 hj ⊢
    have := h.shut j hj hv2
    unfold doneAt at this ⊢
    by_cases e2 : (s.1.getD j default).via.toNat = i
    ·rw [e2, getD_set_same (by omega)]
    ·rw [getD_set_ne e2]; exact this
  ·rw [hcount]
   by_cases e : j = i
   ·subst e
    right
    have e1 : rtAt (s.1.set j r) (j : Int) = r := by simp only [rtAt, Int.toNat_natCast]; exact getD_set_same hi
    rw [e1]
    by_cases hv2 : 0 ≤ r.via
    ·obtain ⟨v, hv3⟩ : ∃ v : Nat, r.via = v := ⟨r.via.toNat, by omega⟩
     have h1 := hvd hv2
     rw [hv3] at h1 ⊢
     exact ends_set hd h.shut h1 (h.ends v h1)
    ·cases hc : s.2.count true with
     | zero => exact (by omega : r.via < 0)
     | succ m => exact .inl (by omega)
   ·simp only at hj
    rw [getD_set_ne e] at hj
    exact (ends_set hd h.shut hj (h.ends j hj)).succ
  ·simp only [List.length_set] at hj
   by_cases e : j = i
   ·subst e
    simp only at hjd
    rw [getD_set_same (by omega)] at hjd
    cases hjd
   ·simp only at hjd ⊢
    rw [getD_set_ne e] at hjd ⊢
    exact h.none j hj hjd
 split at e
 ·rename_i h3
  cases e
  have := main noRt (noRt_in n down (by omega) i) (by simp [noRt])
  have hset : s.1.set i noRt = s.1 := by
   have h0 := h.none i hi hd
   rw [List.getD_eq_getElem?_getD, List.getElem?_eq_getElem hi, Option.getD_some] at h0
   rw [← h0]; exact List.set_getElem_self hi
  rw [hset] at this
  exact ⟨this, rfl⟩
 ·rename_i h3
  split at e
  ·cases e
  ·rename_i r hr
   cases e
   have hmem := List.mem_of_getLast? hr
   simp only [List.mem_filter, decide_eq_true_eq] at hmem
   obtain ⟨c1, c2, c3⟩ := cand_in hn (L := 2 + 100 * (s.2.count true : Nat)) (by omega) hinr hmem.1
   refine ⟨main r c1 fun h0 => ?_, by simp⟩
   rw [hmem.2]
   exact hv (by rw [← hmem.2]; exact h0)
theorem ofRound_inv {n : Net} (hn : NetR n) {env : List Int} {down : List Bool} {vias : List Int} {s t : List Rt × List Bool} (hl : s.1.length = vias.length) (h : OfI n down s) (e : ofRound n env down vias s = some t) : OfI n down t ∧ t.1.length = vias.length := by
 unfold ofRound at e
 refine foldlM_mem (I := fun s => OfI n down s ∧ s.1.length = vias.length) (fun s a t ha hs he => ?_) ⟨h, hl⟩ e
 have h1 := ofStep_inv hn (by rw [hs.2]; exact List.mem_range.1 ha) hs.1 he
 exact ⟨h1.1, h1.2.trans hs.2⟩
theorem ofI_start (n : Net) (down : List Bool) (L : Nat) : OfI n down (List.replicate L noRt, List.replicate L false) := by
 have hf : ∀ i : Nat, (List.replicate L false).getD i false = false := fun i => by
  simp only [List.getD, List.getElem?_replicate]
  split <;> rfl
 refine ⟨by simp, fun i hi => ?_, fun i hi => ?_, fun i hi => ?_, fun i hi _ => ?_⟩
 ·simp only [List.length_replicate] at hi
  have : (List.replicate L noRt).getD i default = noRt := by simp [List.getD, hi]
  simp only [this]
  exact noRt_in n down (by omega) i
 ·simp only at hi; rw [hf] at hi; cases hi
 ·simp only at hi; rw [hf] at hi; cases hi
 ·simp only [List.length_replicate] at hi
  simp [List.getD, hi]
theorem ofP_fine {n : Net} (hn : NetR n) {env : List Int} {down : List Bool} {vias : List Int} {rs : List Rt} (e : ofP n env down vias = some rs) :
  rs.length = vias.length ∧ (∀ i, i < rs.length → RtIn n down (2 + 100 * (rs.length : Nat)) i (rs.getD i default)) ∧ ∀ i : Nat, i < rs.length → ends rs rs.length i := by
 unfold ofP at e
 rw [Option.bind_eq_some_iff] at e
 obtain ⟨s, h1, h2⟩ := e
 have hI := foldlM_mem (I := fun s => OfI n down s ∧ s.1.length = vias.length) (fun s a t ha hs he => ofRound_inv hn hs.2 hs.1 he) ⟨ofI_start n down _, by simp⟩ h1
 split at h2
 ·rename_i hall
  cases h2
  obtain ⟨hI, hl⟩ := hI
  have hc : s.2.count true = s.1.length := by
   rw [hI.len, List.count_eq_length]
   intro b hb
   have := List.all_eq_true.1 hall b hb
   simpa using this.symm
  have h3 := hI.ok
  have h4 := hI.ends
  rw [hc] at h3 h4
  refine ⟨hl, h3, fun i hi => h4 i ?_⟩
  have hi2 : i < s.2.length := by rw [← hI.len]; exact hi
  have := List.all_eq_true.1 hall _ (List.getElem_mem hi2)
  simp [List.getD, hi2]
  simpa using this
 ·cases h2
theorem choice_len {n : Net} {env : List Int} {down : List Bool} {vs : List Int} (h : vs ∈ choiceP n env down) : vs.length = n.routers.length := by
 have : ∀ (m : Nat), ∀ vs ∈ (List.range m).foldl (growP n env down) [[]], vs.length = m := by
  intro m
  induction m with
  | zero => intro vs h; simp at h; subst h; rfl
  | succ m ih =>
   intro vs h
   rw [List.range_succ, List.foldl_append] at h
   simp only [List.foldl_cons, List.foldl_nil, growP, List.mem_flatMap, List.mem_map] at h
   obtain ⟨c, hc, v, hv, rfl⟩ := h
   rw [List.length_append, ih c hc]; rfl
 exact this _ vs h
/-- A state that was found: its routes are right, no link that they take is down, and the ways end. -/
structure StateR (n : Net) (down : List Bool) (rs : List Rt) : Prop where
 len : rs.length = n.routers.length
 ok : ∀ i, i < rs.length → RtIn n down 10000 i (rs.getD i default)
 ends : ∀ i : Nat, i < rs.length → ends rs rs.length i
theorem statesP_fine {n : Net} (hn : NetR n) {env : List Int} {down : List Bool} {rs : List Rt} (h : rs ∈ statesP n env down) : StateR n down rs := by
 simp only [statesP, List.mem_filterMap, stateO, Option.bind_eq_some_iff] at h
 obtain ⟨vs, h1, rs', h2, h3⟩ := h
 split at h3
 ·cases h3
  obtain ⟨e1, e2, e3⟩ := ofP_fine hn h2
  have hl := choice_len h1
  have := hn.r4
  exact ⟨by omega, fun i hi => (e2 i hi).mono (by omega), e3⟩
 ·cases h3
end
section
theorem best_in : ∀ {l : List Rt} {o : Rt}, l.foldl bestStep o = o ∨ l.foldl bestStep o ∈ l := by
 intro l
 induction l with
 | nil => intro o; exact .inl rfl
 | cons a r ih =>
  intro o
  rw [List.foldl_cons]
  rcases ih (o := bestStep o a) with h | h
  ·rw [h]
   unfold bestStep
   split
   ·exact .inr (by simp)
   ·exact .inl rfl
  ·exact .inr (by simp [h])
theorem bestP_mem {l : List Rt} (h : l ≠ []) : bestP l ∈ l := by
 cases l with
 | nil => exact absurd rfl h
 | cons a r =>
  unfold bestP
  rw [List.foldl_cons, show bestStep noRt a = a by simp [bestStep, noRt]]
  rcases best_in (l := r) (o := a) with h | h
  ·rw [h]; simp
  ·simp [h]
/-- Whence a candidate is. -/
theorem cand_of {n : Net} {env : List Int} {down : List Bool} {rs : List Rt} {i : Int} {r : Rt} (h : r ∈ candP n i env down rs) :
  (0 ≤ hasI n.origins i ∧ r = ⟨-2, 200, 0, false⟩) ∨ (outB n i env = true ∧ r = ⟨-1, 100, 2, decide (env.getD (hasI n.externals i).toNat 0 = 2)⟩) ∨ ∃ v, v ∈ nearP n i down ∧ viaO n i rs v = some r := by
 simp only [candP, List.mem_append, List.mem_filterMap] at h
 rcases h with (h | h) | ⟨v, hv, h⟩
 ·simp only [ownL] at h
  split at h
  ·simp at h; exact .inl ⟨by assumption, h⟩
  ·cases h
 ·simp only [outL] at h
  split at h
  ·simp at h; exact .inr (.inl ⟨by assumption, h⟩)
  ·cases h
 ·exact .inr (.inr ⟨v, hv, h⟩)
theorem impGo_via {router from_ : Int} : ∀ {xs : List Imp} {r s : Rt}, impGo router from_ xs r = some s → s.via = r.via := by
 intro xs
 induction xs with
 | nil => intro r s h; simp [impGo] at h; rw [h]
 | cons x xs ih =>
  intro r s h
  simp only [impGo] at h
  split at h
  ·exact ih h
  split at h
  ·cases h
  split at h
  ·have := ih h; exact this
  ·have := ih h; exact this
theorem viaO_via {n : Net} {i : Int} {rs : List Rt} {v : Int} {r : Rt} (h : viaO n i rs v = some r) : r.via = v ∧ (rtAt rs v).via ≠ -3 ∧ throughP rs v i = false ∧ importO n i v (rtAt rs v) = some r := by
 unfold viaO at h
 split at h
 ·cases h
 rename_i hno
 simp only [not_or, Bool.not_eq_true] at hno
 exact ⟨impGo_via h, hno.1, hno.2, h⟩
theorem thr_ends {rs : List Rt} {i : Int} : ∀ {m : Nat} {k : Int}, thr rs i m k = false → ends rs m k := by
 intro m
 induction m with
 | zero => intro k h; simp [thr] at h
 | succ m ih =>
  intro k h
  unfold thr at h
  split at h
  ·cases h
  split at h
  ·exact .inl (by assumption)
  split at h
  ·right
   cases m with
   | zero => assumption
   | succ m => exact .inl (by assumption)
  ·exact .inr (ih h)
/-- A state in which none would choose anew. -/
structure Still (n : Net) (env : List Int) (down : List Bool) (rs : List Rt) : Prop where
 len : rs.length = n.routers.length
 best : ∀ i : Nat, i < rs.length → bestP (candP n i env down rs) = rs.getD i default
theorem still_of {n : Net} {env : List Int} {down : List Bool} {rs : List Rt} (hl : rs.length = n.routers.length) (h : stableB n env down rs = true) : Still n env down rs := by
 refine ⟨hl, fun i hi => ?_⟩
 have := List.all_eq_true.1 h i (List.mem_range.2 hi)
 simpa using this
theorem Still.or {n : Net} {env : List Int} {down : List Bool} {rs : List Rt} (h : Still n env down rs) {i : Nat} (hi : i < rs.length) : (rs.getD i default = noRt ∧ candP n i env down rs = []) ∨ rs.getD i default ∈ candP n i env down rs := by
 have hb := h.best i hi
 by_cases hc : candP n i env down rs = []
 ·rw [hc] at hb; exact .inl ⟨hb.symm, hc⟩
 ·rw [← hb]; exact .inr (bestP_mem hc)
theorem Still.via {n : Net} {env : List Int} {down : List Bool} {rs : List Rt} (h : Still n env down rs) {i : Nat} (hi : i < rs.length) (hv : 0 ≤ (rs.getD i default).via) :
  (rs.getD i default).via ∈ nearP n i down ∧ viaO n i rs (rs.getD i default).via = some (rs.getD i default) := by
 rcases h.or hi with ⟨h1, _⟩ | h1
 ·rw [h1] at hv; simp [noRt] at hv
 ·rcases cand_of h1 with ⟨_, e⟩ | ⟨_, e⟩ | ⟨v, hv1, e⟩
  ·rw [e] at hv; simp at hv
  ·rw [e] at hv; simp at hv
  ·have := (viaO_via e).1
   rw [this]; exact ⟨hv1, e⟩
theorem Still.lt {n : Net} {env : List Int} {down : List Bool} {rs : List Rt} (h : Still n env down rs) {i : Nat} (hi : i < rs.length) : -3 ≤ (rs.getD i default).via ∧ (rs.getD i default).via < rs.length := by
 by_cases hv : 0 ≤ (rs.getD i default).via
 ·have := near_mem (h.via hi hv).1
  have hl := h.len
  omega
 ·rcases h.or hi with ⟨h1, _⟩ | h1
  ·rw [h1] at hv ⊢; simp [noRt]; omega
  ·rcases cand_of h1 with ⟨_, e⟩ | ⟨_, e⟩ | ⟨v, hv1, e⟩
   ·rw [e]; simp; omega
   ·rw [e]; simp; omega
   ·have := near_mem hv1
    have := (viaO_via e).1
    omega
theorem rtAt_nat (rs : List Rt) (i : Nat) : rtAt rs (i : Int) = rs.getD i default := by simp only [rtAt, Int.toNat_natCast]
theorem Still.some_end {n : Net} {env : List Int} {down : List Bool} {rs : List Rt} (h : Still n env down rs) {i : Nat} (hi : i < rs.length) : ends rs (rs.length + 2) i := by
 right
 rw [rtAt_nat]
 by_cases hv : 0 ≤ (rs.getD i default).via
 ·have := (viaO_via (h.via hi hv).2).2.2.1
  exact thr_ends this
 ·exact .inl (by omega)
/-- As a test. -/
def endB (rs : List Rt) : Nat → Int → Bool
 | 0, k => decide (k < 0)
 | m + 1, k => decide (k < 0) || endB rs m (rtAt rs k).via
theorem endB_iff {rs : List Rt} : ∀ {m : Nat} {k : Int}, endB rs m k = true ↔ ends rs m k := by
 intro m
 induction m with
 | zero => intro k; simp [endB, ends]
 | succ m ih => intro k; simp [endB, ends, ih]
theorem filter_more {α : Type} {p q : α → Bool} (hpq : ∀ x, p x = true → q x = true) : ∀ (l : List α), (l.filter p).length ≤ (l.filter q).length ∧ ((l.filter p).length = (l.filter q).length → ∀ x ∈ l, q x = true → p x = true) := by
 intro l
 induction l with
 | nil => exact ⟨Nat.le_refl _, fun _ x hx => by cases hx⟩
 | cons a r ih =>
  cases hp : p a with
  | true =>
   have hq := hpq a hp
   simp only [List.filter_cons, hp, hq, ↓reduceIte, List.length_cons]
   refine ⟨by omega, fun e x hx hqx => ?_⟩
   rcases List.mem_cons.1 hx with rfl | hx
   ·exact hp
   ·exact ih.2 (by omega) x hx hqx
  | false =>
   cases hq : q a with
   | true =>
    simp only [List.filter_cons, hp, hq, ↓reduceIte, List.length_cons, Bool.false_eq_true]
    exact ⟨by omega, fun e => by omega⟩
   | false =>
    simp only [List.filter_cons, hp, hq, ↓reduceIte, Bool.false_eq_true]
    refine ⟨ih.1, fun e x hx hqx => ?_⟩
    rcases List.mem_cons.1 hx with rfl | hx
    ·rw [hq] at hqx; cases hqx
    ·exact ih.2 e x hx hqx
def endN (rs : List Rt) (m : Nat) : Nat := ((List.range rs.length).filter fun (i : Nat) => endB rs m i).length
/-- Where a step brings none more to its end, no further one does. -/
theorem end_stop {rs : List Rt} (hr : ∀ i : Nat, i < rs.length → (rs.getD i default).via < rs.length) {m : Nat} (h : ∀ i : Nat, i < rs.length → ends rs (m + 1) i → ends rs m i) : ∀ (d : Nat) (i : Nat), i < rs.length → ends rs (m + d) i → ends rs m i := by
 intro d
 induction d with
 | zero => intro i _ h; exact h
 | succ d ih =>
  intro i hi he
  have he : ends rs ((m + d) + 1) i := he
  rcases he with he | he
  ·omega
  ·refine h i hi (.inr ?_)
   rw [rtAt_nat] at he ⊢
   by_cases hv : 0 ≤ (rs.getD i default).via
   ·obtain ⟨v, hvn⟩ : ∃ v : Nat, (rs.getD i default).via = v := ⟨(rs.getD i default).via.toNat, by omega⟩
    have := hr i hi
    rw [hvn] at he this ⊢
    exact ih v (by omega) he
   ·cases m with
    | zero => exact (by omega : (rs.getD i default).via < 0)
    | succ m => exact .inl (by omega)
theorem end_within {rs : List Rt} (hr : ∀ i : Nat, i < rs.length → (rs.getD i default).via < rs.length) {M : Nat} (hM : ∀ i : Nat, i < rs.length → ends rs M i) : ∀ i : Nat, i < rs.length → ends rs rs.length i := by
 have hall : ∀ m : Nat, (∀ i : Nat, i < rs.length → ends rs m i) ∨ m ≤ endN rs m := by
  intro m
  induction m with
  | zero => exact .inr (Nat.zero_le _)
  | succ m ih =>
   rcases ih with ih | ih
   ·exact .inl fun i hi => (ih i hi).succ
   ·have hf := filter_more (p := fun (i : Nat) => endB rs m i) (q := fun (i : Nat) => endB rs (m + 1) i) (fun i h => endB_iff.2 (endB_iff.1 h).succ) (List.range rs.length)
    by_cases he : endN rs m = endN rs (m + 1)
    ·left
     have hst := hf.2 he
     have h1 := end_stop hr (m := m) fun i hi h => endB_iff.1 (hst i (List.mem_range.2 hi) (endB_iff.2 h))
     intro i hi
     have : ends rs (m + M) i := (hM i hi).le (by omega)
     exact (h1 M i hi this).succ
    ·right
     have h1 := hf.1
     unfold endN at he ih ⊢
     omega
 rcases hall (rs.length + 1) with h | h
 ·-- all are at their end a step later
  intro i hi
  rcases hall rs.length with h2 | h2
  ·exact h2 i hi
  ·have hfull := filter_more (p := fun (i : Nat) => endB rs rs.length i) (q := fun _ => true) (fun _ _ => rfl) (List.range rs.length)
   have hq : ((List.range rs.length).filter fun _ => true).length = rs.length := by rw [List.filter_eq_self.2 (fun _ _ => rfl), List.length_range]
   have := hfull.2 (by have := hfull.1; unfold endN at h2; omega) i (List.mem_range.2 hi) rfl
   exact endB_iff.1 this
 ·have : endN rs (rs.length + 1) ≤ rs.length := by
   unfold endN
   have := List.length_filter_le (fun (i : Nat) => endB rs (rs.length + 1) i) (List.range rs.length)
   simpa using this
  omega
/-- What is kept where the routes are worked out that are there already. -/
structure OfT (rs : List Rt) (s : List Rt × List Bool) : Prop where
 l1 : s.1.length = rs.length
 l2 : s.2.length = rs.length
 yes : ∀ i : Nat, s.2.getD i false = true → s.1.getD i default = rs.getD i default
 no : ∀ i : Nat, i < rs.length → s.2.getD i false = false → s.1.getD i default = noRt
 shut : ∀ i : Nat, s.2.getD i false = true → 0 ≤ (rs.getD i default).via → doneAt s.2 (rs.getD i default).via = true
theorem thr_same {rs : List Rt} {s : List Rt × List Bool} (h : OfT rs s) {i : Int} : ∀ {m : Nat} {k : Int}, (0 ≤ k → doneAt s.2 k = true) → thr s.1 i m k = thr rs i m k := by
 intro m
 induction m with
 | zero => intro k _; rfl
 | succ m ih =>
  intro k hk
  unfold thr
  by_cases h0 : k = i
  ·rw [if_pos h0, if_pos h0]
  rw [if_neg h0, if_neg h0]
  by_cases h1 : k < 0
  ·rw [if_pos h1, if_pos h1]
  rw [if_neg h1, if_neg h1]
  have hd := hk (by omega)
  have he : rtAt s.1 k = rtAt rs k := h.yes _ hd
  rw [he]
  by_cases h2 : (rtAt rs k).via < 0
  ·rw [if_pos h2, if_pos h2]
  rw [if_neg h2, if_neg h2]
  exact ih fun hv => h.shut _ hd hv
theorem ofStep_target {n : Net} {env : List Int} {down : List Bool} {rs : List Rt} (hs : Still n env down rs) {s : List Rt × List Bool} (h : OfT rs s) {i : Nat} (hi : i < rs.length) :
  ∃ t, ofStep n env down (rs.map (·.via)) s i = some t ∧ OfT rs t ∧ (∀ j, s.2.getD j false = true → t.2.getD j false = true) ∧ (((rs.getD i default).via < 0 ∨ doneAt s.2 (rs.getD i default).via = true) → t.2.getD i false = true) := by
 have hvi : (rs.map (·.via)).getD i 0 = (rs.getD i default).via := by simp [List.getD, hi]
 unfold ofStep
 rw [hvi]
 by_cases hd : s.2.getD i false = true
 ·rw [if_pos (.inl hd)]
  exact ⟨s, rfl, h, fun _ h => h, fun _ => hd⟩
 by_cases hw : 0 ≤ (rs.getD i default).via ∧ s.2.getD (rs.getD i default).via.toNat false = false
 ·rw [if_pos (.inr hw)]
  refine ⟨s, rfl, h, fun _ h => h, fun he => ?_⟩
  rcases he with he | he
  ·omega
  ·unfold doneAt at he; rw [hw.2] at he; cases he
 rw [if_neg (by simp only [not_or]; exact ⟨hd, hw⟩)]
 have hd' : s.2.getD i false = false := by simpa using hd
 have hdv : 0 ≤ (rs.getD i default).via → doneAt s.2 (rs.getD i default).via = true := fun h0 => by
  unfold doneAt
  cases hq : s.2.getD (rs.getD i default).via.toNat false with
  | true => rfl
  | false => exact absurd ⟨h0, hq⟩ hw
 have mono : ∀ j, s.2.getD j false = true → (s.2.set i true).getD j false = true := fun j hj => by
  by_cases e : j = i
  ·subst e; exact getD_set_same (by rw [h.l2]; exact hi)
  ·rw [getD_set_ne e]; exact hj
 have main : OfT rs (s.1.set i (rs.getD i default), s.2.set i true) := by
  refine ⟨by simp [h.l1], by simp [h.l2], fun j hj => ?_, fun j hj hjd => ?_, fun j hj hjv => ?_⟩
  ·by_cases e : j = i
   ·subst e; exact getD_set_same (by rw [h.l1]; exact hi)
   ·simp only at hj ⊢
    rw [getD_set_ne e] at hj ⊢
    exact h.yes j hj
  ·by_cases e : j = i
   ·subst e
    simp only at hjd
    rw [getD_set_same (by rw [h.l2]; exact hi)] at hjd
    cases hjd
   ·simp only at hjd ⊢
    rw [getD_set_ne e] at hjd ⊢
    exact h.no j hj hjd
  ·have : doneAt s.2 (rs.getD j default).via = true := by
    by_cases e : j = i
    ·subst e; exact hdv hjv
    ·simp only at hj
     rw [getD_set_ne e] at hj
     exact h.shut j hj hjv
   exact mono _ this
 have hset : (s.2.set i true).getD i false = true := getD_set_same (by rw [h.l2]; exact hi)
 by_cases h3 : (rs.getD i default).via = -3
 ·rw [if_pos h3]
  have hr : rs.getD i default = noRt := by
   rcases hs.or hi with ⟨h1, _⟩ | h1
   ·exact h1
   ·rcases cand_of h1 with ⟨_, e⟩ | ⟨_, e⟩ | ⟨v, hv1, e⟩
    ·rw [e] at h3; simp at h3
    ·rw [e] at h3; simp at h3
    ·have := near_mem hv1
     have := (viaO_via e).1
     omega
  have he : s.1.set i (rs.getD i default) = s.1 := by
   have h0 := h.no i hi hd'
   have hil : i < s.1.length := by rw [h.l1]; exact hi
   rw [List.getD_eq_getElem?_getD, List.getElem?_eq_getElem hil, Option.getD_some] at h0
   rw [hr, ← h0]; exact List.set_getElem_self hil
  rw [he] at main
  exact ⟨_, rfl, main, mono, fun _ => hset⟩
 rw [if_neg h3]
 have hmem : rs.getD i default ∈ candP n i env down rs := (hs.or hi).resolve_left fun h1 => h3 (by rw [h1.1]; rfl)
 have hthr : ∀ v, doneAt s.2 v = true → throughP s.1 v i = throughP rs v i := fun v hv => by
  unfold throughP; rw [h.l1]; exact thr_same h fun _ => hv
 have hvia : ∀ v, doneAt s.2 v = true → viaO n i s.1 v = viaO n i rs v := fun v hv => by
  have he : rtAt s.1 v = rtAt rs v := h.yes _ hv
  unfold viaO; rw [he, hthr v hv]
 have hmem2 : rs.getD i default ∈ candP n i env down s.1 := by
  rcases cand_of hmem with ⟨e1, e2⟩ | ⟨e1, e2⟩ | ⟨v, hv1, e⟩
  ·rw [e2]; simp [candP, ownL, e1]
  ·rw [e2]; simp [candP, outL, e1]
  ·have hv := (viaO_via e).1
   have hv0 := near_mem hv1
   rw [← hvia v (by rw [← hv]; exact hdv (by omega))] at e
   simp only [candP, List.mem_append, List.mem_filterMap]
   exact .inr ⟨v, hv1, e⟩
 have huniq : ∀ x ∈ candP n i env down s.1, x.via = (rs.getD i default).via → x = rs.getD i default := by
  intro x hx hxv
  rcases cand_of hmem with ⟨_, e2⟩ | ⟨_, e2⟩ | ⟨v, hv1, e⟩
  ·rcases cand_of hx with ⟨_, f⟩ | ⟨_, f⟩ | ⟨w, hw1, f⟩
   ·rw [e2, f]
   ·rw [e2, f] at hxv; simp at hxv
   ·have := near_mem hw1
    have := (viaO_via f).1
    rw [e2] at hxv; simp at hxv; omega
  ·rcases cand_of hx with ⟨_, f⟩ | ⟨_, f⟩ | ⟨w, hw1, f⟩
   ·rw [e2, f] at hxv; simp at hxv
   ·rw [e2, f]
   ·have := near_mem hw1
    have := (viaO_via f).1
    rw [e2] at hxv; simp at hxv; omega
  ·have hv := (viaO_via e).1
   have hv0 := near_mem hv1
   rcases cand_of hx with ⟨_, f⟩ | ⟨_, f⟩ | ⟨w, hw1, f⟩
   ·rw [f] at hxv; have : (-2 : Int) = (rs.getD i default).via := hxv; omega
   ·rw [f] at hxv; have : (-1 : Int) = (rs.getD i default).via := hxv; omega
   ·have hw := (viaO_via f).1
    have hwv : w = v := by omega
    subst hwv
    rw [hvia w (by rw [← hv]; exact hdv (by omega)), e] at f
    exact (Option.some.inj f).symm
 have hne : ((candP n i env down s.1).filter fun r => decide (r.via = (rs.getD i default).via)) ≠ [] := by
  intro e
  have : rs.getD i default ∈ (candP n i env down s.1).filter fun r => decide (r.via = (rs.getD i default).via) := List.mem_filter.2 ⟨hmem2, by simp⟩
  rw [e] at this
  cases this
 cases hl : ((candP n i env down s.1).filter fun r => decide (r.via = (rs.getD i default).via)).getLast? with
 | none => rw [List.getLast?_eq_none_iff] at hl; exact absurd hl hne
 | some x =>
  have hx := List.mem_of_getLast? hl
  simp only [List.mem_filter, decide_eq_true_eq] at hx
  rw [huniq x hx.1 hx.2]
  exact ⟨_, rfl, main, mono, fun _ => hset⟩
theorem ofSteps_target {n : Net} {env : List Int} {down : List Bool} {rs : List Rt} (hs : Still n env down rs) : ∀ (l : List Nat) (s : List Rt × List Bool), (∀ i ∈ l, i < rs.length) → OfT rs s →
  ∃ t, l.foldlM (ofStep n env down (rs.map (·.via))) s = some t ∧ OfT rs t ∧ (∀ j, s.2.getD j false = true → t.2.getD j false = true) ∧ ∀ i ∈ l, ((rs.getD i default).via < 0 ∨ doneAt s.2 (rs.getD i default).via = true) → t.2.getD i false = true := by
 intro l
 induction l with
 | nil => intro s _ h; exact ⟨s, rfl, h, fun _ h => h, fun i hi => by cases hi⟩
 | cons a r ih =>
  intro s hl h
  obtain ⟨t, e1, e2, e3, e4⟩ := ofStep_target hs h (hl a (by simp))
  obtain ⟨u, f1, f2, f3, f4⟩ := ih t (fun i hi => hl i (by simp [hi])) e2
  refine ⟨u, by rw [List.foldlM_cons, e1]; exact f1, f2, fun j hj => f3 j (e3 j hj), fun i hi he => ?_⟩
  rcases List.mem_cons.1 hi with rfl | hi
  ·exact f3 _ (e4 he)
  ·exact f4 i hi (he.imp_right fun hd => e3 _ hd)
theorem ofRounds_target {n : Net} {env : List Int} {down : List Bool} {rs : List Rt} (hs : Still n env down rs) : ∀ (m : Nat),
  ∃ t, (List.range m).foldlM (fun s _ => ofRound n env down (rs.map (·.via)) s) (List.replicate rs.length noRt, List.replicate rs.length false) = some t ∧ OfT rs t ∧ ∀ i : Nat, i < rs.length → ends rs m i → t.2.getD i false = true := by
 intro m
 induction m with
 | zero =>
  have hf : ∀ i : Nat, (List.replicate rs.length false).getD i false = false := fun i => by
   simp only [List.getD, List.getElem?_replicate]
   split <;> rfl
  refine ⟨_, rfl, ⟨by simp, by simp, fun i hi => ?_, fun i hi _ => by simp only [List.getD, List.getElem?_replicate, hi, ↓reduceIte, Option.getD_some], fun i hi => ?_⟩, fun i hi he => ?_⟩
  ·simp only at hi; rw [hf] at hi; cases hi
  ·simp only at hi; rw [hf] at hi; cases hi
  ·exact absurd he (by simp only [ends]; omega)
 | succ m ih =>
  obtain ⟨t, e1, e2, e3⟩ := ih
  obtain ⟨u, f1, f2, f3, f4⟩ := ofSteps_target hs (List.range rs.length) t (fun i hi => List.mem_range.1 hi) e2
  refine ⟨u, ?_, f2, fun i hi he => f4 i (List.mem_range.2 hi) ?_⟩
  ·rw [List.range_succ, List.foldlM_append, e1]
   show [m].foldlM (fun s _ => ofRound n env down (rs.map (·.via)) s) t = some u
   rw [List.foldlM_cons]
   have : ofRound n env down (rs.map (·.via)) t = some u := by unfold ofRound; rw [List.length_map]; exact f1
   rw [this]; rfl
  ·rcases he with he | he
   ·omega
   ·rw [rtAt_nat] at he
    by_cases hv : 0 ≤ (rs.getD i default).via
    ·right
     obtain ⟨v, hvn⟩ : ∃ v : Nat, (rs.getD i default).via = v := ⟨(rs.getD i default).via.toNat, by omega⟩
     have := (hs.lt hi).2
     rw [hvn] at he this ⊢
     exact e3 v (by omega) he
    ·left; omega
theorem Still.of {n : Net} {env : List Int} {down : List Bool} {rs : List Rt} (hs : Still n env down rs) : ofP n env down (rs.map (·.via)) = some rs := by
 obtain ⟨t, e1, e2, e3⟩ := ofRounds_target hs (rs.length + 1)
 have hend := end_within (fun i hi => (hs.lt hi).2) (M := rs.length + 2) fun i hi => hs.some_end hi
 have hdone : ∀ i : Nat, i < rs.length → t.2.getD i false = true := fun i hi => e3 i hi (hend i hi).succ
 have hall : t.2.all id = true := by
  rw [List.all_eq_true]
  intro b hb
  obtain ⟨i, hi, rfl⟩ := List.getElem_of_mem hb
  have := hdone i (by rw [← e2.l2]; exact hi)
  simpa [List.getD, hi] using this
 have heq : t.1 = rs := by
  refine List.ext_getElem e2.l1 fun i h1 h2 => ?_
  have := e2.yes i (hdone i h2)
  simpa [List.getD, h1, h2] using this
 unfold ofP
 rw [List.length_map, e1, Option.bind_some, if_pos hall, heq]
theorem choice_mem {n : Net} {env : List Int} {down : List Bool} : ∀ (m : Nat) (vs : List Int), vs.length = m → (∀ i : Nat, i < m → vs.getD i 0 ∈ optP n i env down) → vs ∈ (List.range m).foldl (growP n env down) [[]] := by
 intro m
 induction m with
 | zero => intro vs h _; have := List.eq_nil_of_length_eq_zero h; subst this; simp
 | succ m ih =>
  intro vs h ho
  have hne : vs ≠ [] := fun e => by subst e; simp at h
  have hsplit := List.dropLast_concat_getLast hne
  have hlast : vs.getLast hne = vs.getD m 0 := by
   rw [List.getLast_eq_getElem]; simp [List.getD, h]
  rw [List.range_succ, List.foldl_append]
  simp only [List.foldl_cons, List.foldl_nil, growP, List.mem_flatMap, List.mem_map]
  refine ⟨vs.dropLast, ih _ (by simp [h]) fun i hi => ?_, vs.getD m 0, ho m (by omega), by rw [← hlast]; exact hsplit⟩
  have := ho i (by omega)
  have e : vs.dropLast.getD i 0 = vs.getD i 0 := by
   rw [List.getD_eq_getElem?_getD, List.getD_eq_getElem?_getD, List.getElem?_dropLast, if_pos (by omega)]
  rw [e]; exact this
theorem Still.mem {n : Net} {env : List Int} {down : List Bool} {rs : List Rt} (hs : Still n env down rs) (hb : stableB n env down rs = true) : rs ∈ statesP n env down := by
 simp only [statesP, List.mem_filterMap]
 refine ⟨rs.map (·.via), ?_, by simp [stateO, hs.of, hb]⟩
 refine choice_mem _ _ (by rw [List.length_map, hs.len]) fun i hi => ?_
 have hi' : i < rs.length := by rw [hs.len]; exact hi
 have hvi : (rs.map (·.via)).getD i 0 = (rs.getD i default).via := by simp [List.getD, hi']
 rw [hvi]
 unfold optP
 rw [List.mem_append]
 rcases hs.or hi' with ⟨h1, h2⟩ | h1
 ·left
  have ho : ownL n i = [] ∧ outL n i env = [] := by
   simp only [candP, List.append_eq_nil_iff] at h2; exact h2.1
  have hz : optL n i env = [] := by
   unfold optL
   have h3 := ho.1
   have h4 := ho.2
   unfold ownL at h3
   unfold outL at h4
   split at h3
   ·cases h3
   ·split at h4
    ·cases h4
    ·simp_all
  rw [if_pos hz, h1]; simp [noRt]
 ·rcases cand_of h1 with ⟨e1, e2⟩ | ⟨e1, e2⟩ | ⟨v, hv1, e⟩
  ·left
   rw [e2]
   have : (-2 : Int) ∈ optL n i env := by simp [optL, e1]
   rw [if_neg (fun e => by rw [e] at this; cases this)]; exact this
  ·left
   rw [e2]
   have : (-1 : Int) ∈ optL n i env := by simp [optL, e1]
   rw [if_neg (fun e => by rw [e] at this; cases this)]; exact this
  ·right
   rw [(viaO_via e).1]; exact hv1
end
section
def comP (rs : List Rt) (router : Int) : Nat → Int → Bool
 | 0, _ => true
 | m + 1, k => if k = router then true else if k < 0 then false else comP rs router m (rtAt rs k).via
theorem comP_succ (rs : List Rt) (router : Int) (m : Nat) (k : Int) : comP rs router (m + 1) k = if k = router then true else if k < 0 then false else comP rs router m (rtAt rs k).via := rfl
theorem end_one {rs : List Rt} (hr : ∀ i : Nat, i < rs.length → (rs.getD i default).via < rs.length) {M i : Nat} (hi : i < rs.length) (h : ends rs M i) : ends rs rs.length i := by
 have hex : ∀ m : Nat, (∃ m', m' < m ∧ ∀ i : Nat, i < rs.length → ends rs (m' + 1) i → ends rs m' i) ∨ m ≤ endN rs m := by
  intro m
  induction m with
  | zero => exact .inr (Nat.zero_le _)
  | succ m ih =>
   rcases ih with ⟨m', h1, h2⟩ | ih
   ·exact .inl ⟨m', by omega, h2⟩
   ·have hf := filter_more (p := fun (i : Nat) => endB rs m i) (q := fun (i : Nat) => endB rs (m + 1) i) (fun i h => endB_iff.2 (endB_iff.1 h).succ) (List.range rs.length)
    by_cases he : endN rs m = endN rs (m + 1)
    ·exact .inl ⟨m, by omega, fun i hi h => endB_iff.1 (hf.2 he i (List.mem_range.2 hi) (endB_iff.2 h))⟩
    ·right
     have h1 := hf.1
     unfold endN at he ih ⊢
     omega
 rcases hex (rs.length + 1) with ⟨m', h1, h2⟩ | h2
 ·exact (end_stop hr h2 M i hi (h.le (by omega))).le (by omega)
 ·have : endN rs (rs.length + 1) ≤ rs.length := by
   unfold endN
   have := List.length_filter_le (fun (i : Nat) => endB rs (rs.length + 1) i) (List.range rs.length)
   simpa using this
  omega
theorem com_thr {rs : List Rt} {router : Int} : ∀ {m : Nat} {k : Int}, comP rs router m k = false → thr rs router m k = false := by
 intro m
 induction m with
 | zero => intro k h; exact h
 | succ m ih =>
  intro k h
  simp only [comP] at h
  simp only [thr]
  split at h
  ·cases h
  ·rename_i h1
   rw [if_neg h1]
   split at h
   ·rename_i h2; rw [if_pos h2]
   ·rename_i h2
    rw [if_neg h2]
    split
    ·rfl
    ·exact ih h
theorem thr_com {rs : List Rt} {router : Int} (hr : 0 ≤ router) : ∀ {m : Nat} {k : Int}, thr rs router m k = false → comP rs router (m + 1) k = false := by
 intro m
 induction m with
 | zero => intro k h; cases h
 | succ m ih =>
  intro k h
  simp only [thr] at h
  split at h
  ·cases h
  ·rename_i h1
   split at h
   ·rename_i h2
    rw [comP, if_neg h1, if_pos h2]
   ·rename_i h2
    rw [comP, if_neg h1, if_neg h2]
    split at h
    ·rename_i h3
     rw [comP, if_neg (by omega), if_pos h3]
    ·exact ih h
theorem com_ends {rs : List Rt} {router : Int} : ∀ {m : Nat} {k : Int}, comP rs router m k = false → ends rs m k := by
 intro m
 induction m with
 | zero => intro k h; cases h
 | succ m ih =>
  intro k h
  simp only [comP] at h
  split at h
  ·cases h
  ·split at h
   ·rename_i h2; exact .inl h2
   ·exact .inr (ih h)
theorem com_within {rs : List Rt} {router : Int} (hr : 0 ≤ router) : ∀ {m M : Nat} {k : Int}, comP rs router M k = false → ends rs m k → comP rs router (m + 1) k = false := by
 intro m
 induction m with
 | zero =>
  intro M k h he
  have he : k < 0 := he
  rw [comP, if_neg (by omega), if_pos he]
 | succ m ih =>
  intro M k h he
  cases M with
  | zero => cases h
  | succ M =>
   simp only [comP] at h
   split at h
   ·cases h
   ·rename_i h1
    by_cases h2 : k < 0
    ·rw [comP, if_neg h1, if_pos h2]
    ·rw [if_neg h2] at h
     rw [comP, if_neg h1, if_neg h2]
     exact ih h (he.resolve_left h2)
theorem com_same {rs : List Rt} {router k : Int} (hv : ∀ v : Int, (rtAt rs v).via < rs.length) (hr : 0 ≤ router) (hk : k < rs.length) : comP rs router (rs.length + 1) k = throughP rs k router := by
 unfold throughP
 cases ht : thr rs router (rs.length + 1) k with
 | true =>
  cases hc : comP rs router (rs.length + 1) k with
  | true => rfl
  | false => rw [com_thr hc] at ht; cases ht
 | false =>
  have h1 := thr_com hr ht
  have h2 := com_ends h1
  refine com_within hr h1 ?_
  by_cases h0 : k < 0
  ·cases rs.length with
   | zero => exact h0
   | succ m => exact .inl h0
  ·obtain ⟨i, rfl⟩ : ∃ i : Nat, k = i := ⟨k.toNat, by omega⟩
   exact end_one (fun j hj => by have := hv j; rwa [rtAt_nat] at this) (by omega) h2
theorem net_do {n : Net} (h : netB n = true) : ∀ x ∈ n.imports, 1 ≤ x.do_ ∧ x.do_ ≤ 4 := by
 intro x hx
 simp only [netB, Bool.and_eq_true, List.all_eq_true] at h
 have := h.1.1.1.1.2 x hx
 simp only [impOn, impB, inB, Bool.and_eq_true, decide_eq_true_eq] at this
 omega
/-- The first of the best, where there is none that has no way. -/
def firstBest : List Rt → Rt
 | [] => noRt
 | x :: r => (x :: r).foldl (fun o y => if betterP y o then y else o) x
theorem better_self (a : Rt) : betterP a a = false := by unfold betterP; simp
theorem first_best {l : List Rt} (h : ∀ r ∈ l, r.via ≠ -3) : firstBest l = bestP l := by
 cases l with
 | nil => rfl
 | cons x r =>
  have h1 : ∀ (l : List Rt) (o : Rt), o.via ≠ -3 → (∀ r ∈ l, r.via ≠ -3) → l.foldl (fun o y => if betterP y o then y else o) o = l.foldl bestStep o := by
   intro l
   induction l with
   | nil => intro o _ _; rfl
   | cons y l ih =>
    intro o ho hl
    rw [List.foldl_cons, List.foldl_cons]
    have : bestStep o y = if betterP y o then y else o := by
     unfold bestStep
     by_cases hb : betterP y o = true
     ·rw [if_pos (.inr hb), if_pos hb]
     ·rw [if_neg (by simp [ho, hb]), if_neg hb]
    rw [this]
    refine ih _ ?_ fun r hr => hl r (by simp [hr])
    split
    ·exact hl y (by simp)
    ·exact ho
  show (x :: r).foldl _ x = (x :: r).foldl bestStep noRt
  rw [List.foldl_cons, List.foldl_cons, better_self]
  have : bestStep noRt x = x := by unfold bestStep; rw [if_pos (.inl rfl)]
  rw [this]
  exact h1 r x (h x (by simp)) fun y hy => h y (by simp [hy])
theorem cand_via {n : Net} {env : List Int} {down : List Bool} {rs : List Rt} {i : Int} : ∀ r ∈ candP n i env down rs, r.via ≠ -3 := by
 intro r hr
 simp only [candP, List.mem_append, List.mem_filterMap] at hr
 rcases hr with (hr | hr) | ⟨v, hv, hr⟩
 ·unfold ownL at hr; split at hr <;> simp at hr; subst hr; simp
 ·unfold outL at hr; split at hr <;> simp at hr; subst hr; simp
 ·have h1 := near_mem hv
  have h2 := (viaO_via hr).1
  omega
end
section
def outRt (n : Net) (env : List Int) (r : Int) : Rt := ⟨-1, 100, 2, decide (env.getD (hasI n.externals r).toNat 0 = 2)⟩
def routeO (n : Net) (env : List Int) (down : List Bool) (vias : List Int) : Nat → Int → Option Rt
 | 0, r => if vias.getD r.toNat 0 = -3 then some noRt else if vias.getD r.toNat 0 = -2 then (if 0 ≤ hasI n.origins r then some ⟨-2, 200, 0, false⟩ else none)
   else if vias.getD r.toNat 0 = -1 then (if outB n r env then some (outRt n env r) else none) else none
 | m + 1, r => if vias.getD r.toNat 0 = -3 then some noRt else if vias.getD r.toNat 0 = -2 then (if 0 ≤ hasI n.origins r then some ⟨-2, 200, 0, false⟩ else none)
   else if vias.getD r.toNat 0 = -1 then (if outB n r env then some (outRt n env r) else none)
   else if linkP n.links r (vias.getD r.toNat 0) < 0 ∨ down.getD (linkP n.links r (vias.getD r.toNat 0)).toNat false = true then none
   else match routeO n env down vias m (vias.getD r.toNat 0) with
    | none => none
    | some x => if x.via = -3 then none else importO n r (vias.getD r.toNat 0) x
def routesO (n : Net) (env : List Int) (down : List Bool) (vias : List Int) : Option (List Rt) :=
 if (List.range vias.length).all (fun (i : Nat) => (routeO n env down vias vias.length i).isSome) then some ((List.range vias.length).map fun (i : Nat) => (routeO n env down vias vias.length i).getD default) else none
def stateQ (n : Net) (env : List Int) (down : List Bool) (vias : List Int) : Option (List Rt) :=
 (routesO n env down vias).bind fun rs => if stableB n env down rs then some rs else none
theorem importO_via {n : Net} {a b : Int} {r s : Rt} (h : importO n a b r = some s) : s.via = b := impGo_via h
theorem routeO_via {n : Net} {env : List Int} {down : List Bool} {vias : List Int} {m : Nat} {r : Int} {x : Rt} (h : routeO n env down vias m r = some x) : x.via = vias.getD r.toNat 0 := by
 cases m with
 | zero =>
  unfold routeO at h
  split at h
  ·cases h; rename_i e; rw [e]; rfl
  split at h
  ·split at h
   ·cases h; rename_i e _; rw [e]
   ·cases h
  split at h
  ·split at h
   ·cases h; rename_i e _; rw [e]; rfl
   ·cases h
  ·cases h
 | succ m =>
  unfold routeO at h
  split at h
  ·cases h; rename_i e; rw [e]; rfl
  split at h
  ·split at h
   ·cases h; rename_i e _; rw [e]
   ·cases h
  split at h
  ·split at h
   ·cases h; rename_i e _; rw [e]; rfl
   ·cases h
  split at h
  ·cases h
  split at h
  ·cases h
  split at h
  ·cases h
  ·exact importO_via h
theorem routesO_some {n : Net} {env : List Int} {down : List Bool} {vias : List Int} {rs : List Rt} (h : routesO n env down vias = some rs) : rs.length = vias.length ∧ rs.map (·.via) = vias ∧ ∀ i : Nat, i < vias.length → routeO n env down vias vias.length i = some (rs.getD i default) := by
 unfold routesO at h
 split at h
 ·rename_i ha
  rw [List.all_eq_true] at ha
  cases h
  have hk : ∀ i : Nat, i < vias.length → routeO n env down vias vias.length i = some ((routeO n env down vias vias.length i).getD default) := by
   intro i hi
   have := ha i (List.mem_range.2 hi)
   obtain ⟨x, hx⟩ := Option.isSome_iff_exists.1 this
   rw [hx]; rfl
  refine ⟨by simp, ?_, ?_⟩
  ·refine List.ext_getElem (by simp) fun i h1 h2 => ?_
   have := routeO_via (hk i h2)
   rw [Int.toNat_natCast] at this
   simpa [List.getD, h2] using this
  ·intro i hi
   rw [hk i hi]
   simp [List.getD, hi]
 ·cases h
theorem ends_rt {rs : List Rt} {m : Nat} {k : Int} (h : ends rs (m + 1) k) (hk : 0 ≤ k) : ends rs m (rtAt rs k).via := by
 rcases h with h | h
 ·omega
 ·exact h
theorem routeO_still {n : Net} {env : List Int} {down : List Bool} {rs : List Rt} (hs : Still n env down rs) : ∀ (m : Nat) (i : Nat), i < rs.length → ends rs (m + 1) i → routeO n env down (rs.map (·.via)) m i = some (rs.getD i default) := by
 have main : ∀ (i : Nat), i < rs.length → (rs.getD i default).via < 0 → ((rs.getD i default).via = -3 ∧ rs.getD i default = noRt) ∨ ((rs.getD i default).via = -2 ∧ 0 ≤ hasI n.origins i ∧ rs.getD i default = ⟨-2, 200, 0, false⟩) ∨ ((rs.getD i default).via = -1 ∧ outB n i env = true ∧ rs.getD i default = outRt n env i) := by
  intro i hi hv
  rcases hs.or hi with ⟨h1, _⟩ | h1
  ·left; rw [h1]; exact ⟨rfl, rfl⟩
  ·rcases cand_of h1 with ⟨h2, e⟩ | ⟨h2, e⟩ | ⟨v, hv1, e⟩
   ·right; left; rw [e]; exact ⟨rfl, h2, rfl⟩
   ·right; right; rw [e]; exact ⟨rfl, h2, rfl⟩
   ·have := near_mem hv1
    have := (viaO_via e).1
    omega
 have hvi : ∀ i : Nat, i < rs.length → (rs.map (·.via)).getD (i : Int).toNat 0 = (rs.getD i default).via := by
  intro i hi
  rw [Int.toNat_natCast]
  simp [List.getD, hi]
 intro m
 induction m with
 | zero =>
  intro i hi he
  have he2 : (rs.getD i default).via < 0 := by
   have := ends_rt he (by omega)
   rw [rtAt_nat] at this; exact this
  unfold routeO
  rw [hvi i hi]
  rcases main i hi he2 with ⟨h1, h2⟩ | ⟨h1, h2, h3⟩ | ⟨h1, h2, h3⟩
  ·rw [if_pos h1, h2]
  ·rw [if_neg (by omega), if_pos h1, if_pos h2, h3]
  ·rw [if_neg (by omega), if_neg (by omega), if_pos h1, if_pos h2, h3]
 | succ m ih =>
  intro i hi he
  unfold routeO
  rw [hvi i hi]
  by_cases hv : (rs.getD i default).via < 0
  ·rcases main i hi hv with ⟨h1, h2⟩ | ⟨h1, h2, h3⟩ | ⟨h1, h2, h3⟩
   ·rw [if_pos h1, h2]
   ·rw [if_neg (by omega), if_pos h1, if_pos h2, h3]
   ·rw [if_neg (by omega), if_neg (by omega), if_pos h1, if_pos h2, h3]
  ·obtain ⟨h1, h2⟩ := hs.via hi (by omega)
   have h3 := near_mem h1
   obtain ⟨_, h4, _, h5⟩ := viaO_via h2
   have he2 := ends_rt he (by omega)
   rw [rtAt_nat] at he2
   have hl := hs.len
   have h6 := ih (rs.getD i default).via.toNat (by omega) (by rw [Int.toNat_of_nonneg (by omega)]; exact he2)
   rw [Int.toNat_of_nonneg (by omega)] at h6
   rw [if_neg (by omega), if_neg (by omega), if_neg (by omega), if_neg (fun h => h.elim (fun h => by omega) fun h => by rw [h3.2.2.2] at h; cases h), h6]
   have h7 : rs.getD (rs.getD i default).via.toNat default = rtAt rs (rs.getD i default).via := rfl
   rw [h7]
   show (if (rtAt rs (rs.getD i default).via).via = -3 then none else _) = _
   rw [if_neg h4, h5]
theorem stateQ_still {n : Net} {env : List Int} {down : List Bool} {rs : List Rt} (hs : Still n env down rs) (hb : stableB n env down rs = true) : stateQ n env down (rs.map (·.via)) = some rs := by
 have hk : ∀ i : Nat, i < rs.length → routeO n env down (rs.map (·.via)) rs.length i = some (rs.getD i default) := fun i hi =>
  routeO_still hs _ i hi (end_one (fun i hi => (hs.lt hi).2) hi (hs.some_end hi)).succ
 have h1 : routesO n env down (rs.map (·.via)) = some rs := by
  unfold routesO
  rw [List.length_map, if_pos]
  ·congr 1
   refine List.ext_getElem (by simp) fun i h1 h2 => ?_
   simp only [List.getElem_map, List.getElem_range]
   rw [hk i h2]
   simp [List.getD, h2]
  ·rw [List.all_eq_true]
   intro i hi
   rw [hk i (List.mem_range.1 hi)]; rfl
 unfold stateQ
 rw [h1, Option.bind_some, if_pos hb]
theorem stateQ_some {n : Net} {env : List Int} {down : List Bool} {vs : List Int} {rs : List Rt} (hl : vs.length = n.routers.length) (h : stateQ n env down vs = some rs) : Still n env down rs ∧ stableB n env down rs = true ∧ rs.map (·.via) = vs := by
 unfold stateQ at h
 rw [Option.bind_eq_some_iff] at h
 obtain ⟨r, h1, h2⟩ := h
 split at h2
 ·cases h2
  rename_i hb
  obtain ⟨e1, e2, _⟩ := routesO_some h1
  exact ⟨still_of (by omega) hb, hb, e2⟩
 ·cases h2
/-- What is kept of the choices while the reference works routes out. -/
structure OfV (vias : List Int) (s : List Rt × List Bool) : Prop where
 l1 : s.1.length = vias.length
 l2 : s.2.length = vias.length
 yes : ∀ i : Nat, s.2.getD i false = true → (s.1.getD i default).via = vias.getD i 0
 no : ∀ i : Nat, i < vias.length → s.2.getD i false = false → s.1.getD i default = noRt
theorem ofStep_v {n : Net} {env : List Int} {down : List Bool} {vias : List Int} {s t : List Rt × List Bool} {i : Nat} (hi : i < vias.length) (h : OfV vias s) (e : ofStep n env down vias s i = some t) : OfV vias t := by
 have hl1 := h.l1
 have hl2 := h.l2
 unfold ofStep at e
 split at e
 ·cases e; exact h
 rename_i hno
 simp only [not_or, not_and, Bool.not_eq_true, Bool.not_eq_false] at hno
 have main : ∀ r : Rt, r.via = vias.getD i 0 → OfV vias (s.1.set i r, s.2.set i true) := by
  intro r hr
  refine ⟨by simp [hl1], by simp [hl2], fun j hj => ?_, fun j hj hjd => ?_⟩
  ·by_cases e : j = i
   ·subst e; simp only; rw [getD_set_same (by omega)]; exact hr
   ·simp only at hj ⊢; rw [getD_set_ne e] at hj ⊢; exact h.yes j hj
  ·by_cases e : j = i
   ·subst e; simp only at hjd; rw [getD_set_same (by omega)] at hjd; cases hjd
   ·simp only at hjd ⊢; rw [getD_set_ne e] at hjd ⊢; exact h.no j hj hjd
 split at e
 ·rename_i h3
  cases e
  refine ⟨hl1, by simp [hl2], fun j hj => ?_, fun j hj hjd => ?_⟩
  ·by_cases e : j = i
   ·subst e; simp only; rw [h.no j hi hno.1, h3]; rfl
   ·simp only at hj ⊢; rw [getD_set_ne e] at hj; exact h.yes j hj
  ·by_cases e : j = i
   ·subst e; simp only at hjd; rw [getD_set_same (by omega)] at hjd; cases hjd
   ·simp only at hjd ⊢; rw [getD_set_ne e] at hjd; exact h.no j hj hjd
 ·split at e
  ·cases e
  ·rename_i r hr
   cases e
   have hm := List.mem_of_getLast? hr
   rw [List.mem_filter] at hm
   exact main r (by simpa using hm.2)
theorem ofP_vias {n : Net} {env : List Int} {down : List Bool} {vias : List Int} {rs : List Rt} (e : ofP n env down vias = some rs) : rs.map (·.via) = vias := by
 unfold ofP at e
 rw [Option.bind_eq_some_iff] at e
 obtain ⟨s, h1, h2⟩ := e
 have hI := foldlM_mem (I := OfV vias) (fun s a t ha hs he => foldlM_mem (I := OfV vias) (fun s a t ha hs he => ofStep_v (List.mem_range.1 ha) hs he) hs he) ⟨by simp, by simp, fun i hi => ?_, fun i hi _ => by simp [List.getD, hi]⟩ h1
 ·split at h2
  ·rename_i hall
   cases h2
   refine List.ext_getElem (by rw [List.length_map, hI.l1]) fun i h1 h2 => ?_
   have hi2 : i < s.2.length := by rw [hI.l2]; exact h2
   have hi1 : i < s.1.length := by rw [hI.l1]; exact h2
   have := List.all_eq_true.1 hall _ (List.getElem_mem hi2)
   have := hI.yes i (by simp [List.getD, hi2]; simpa using this)
   simpa [List.getD, hi1, h2] using this
  ·cases h2
 ·exfalso
  by_cases h : i < vias.length
  ·simp [List.getD, h] at hi
  ·simp [List.getD, h] at hi
theorem stateO_some {n : Net} {env : List Int} {down : List Bool} {vs : List Int} {rs : List Rt} (hl : vs.length = n.routers.length) (h : stateO n env down vs = some rs) : Still n env down rs ∧ stableB n env down rs = true ∧ rs.map (·.via) = vs := by
 unfold stateO at h
 rw [Option.bind_eq_some_iff] at h
 obtain ⟨r, h1, h2⟩ := h
 split at h2
 ·cases h2
  rename_i hb
  have e := ofP_vias h1
  have : rs.length = vs.length := by rw [← e, List.length_map]
  exact ⟨still_of (by omega) hb, hb, e⟩
 ·cases h2
theorem stateQ_eq {n : Net} {env : List Int} {down : List Bool} {vs : List Int} (hl : vs.length = n.routers.length) : stateQ n env down vs = stateO n env down vs := by
 refine Option.ext fun rs => ⟨fun h => ?_, fun h => ?_⟩
 ·obtain ⟨h1, h2, h3⟩ := stateQ_some hl h
  rw [← h3]
  simp [stateO, h1.of, h2]
 ·obtain ⟨h1, h2, h3⟩ := stateO_some hl h
  rw [← h3]
  exact stateQ_still h1 h2
/-- The choices by their number: digits from -3 on. -/
def dig (B : Nat) : Nat → Nat → List Int
 | 0, _ => []
 | m + 1, t => dig B m (t / B) ++ [((t % B : Nat) : Int) - 3]
theorem dig_len (B : Nat) : ∀ (m t : Nat), (dig B m t).length = m := by
 intro m
 induction m with
 | zero => intro t; rfl
 | succ m ih => intro t; simp [dig, ih]
theorem dig_mul {B : Nat} (hB : 0 < B) (a q : Nat) : ∀ j : Nat, dig B (a + j) (q * B ^ j) = dig B a q ++ List.replicate j (-3) := by
 intro j
 induction j with
 | zero => simp
 | succ j ih =>
  show dig B (a + j) (q * B ^ (j + 1) / B) ++ _ = _
  have h1 : q * B ^ (j + 1) / B = q * B ^ j := by rw [Nat.pow_succ, ← Nat.mul_assoc]; exact Nat.mul_div_cancel _ hB
  have h2 : q * B ^ (j + 1) % B = 0 := by rw [Nat.pow_succ, ← Nat.mul_assoc]; exact Nat.mul_mod_left _ _
  rw [h1, h2, ih, List.replicate_succ', List.append_assoc]
  rfl
theorem range_mul {β : Type} (b : Nat) (f : Nat → List β) : ∀ a : Nat, (List.range (a * b)).flatMap f = (List.range a).flatMap fun q => (List.range b).flatMap fun r => f (q * b + r) := by
 intro a
 induction a with
 | zero => simp
 | succ a ih =>
  rw [Nat.succ_mul, List.range_add, List.flatMap_append, ih, List.range_succ, List.flatMap_append, List.flatMap_map]
  simp
theorem flat_congr {α β : Type} {f g : α → List β} {l : List α} (h : ∀ x ∈ l, f x = g x) : l.flatMap f = l.flatMap g := by
 induction l with
 | nil => rfl
 | cons x l ih => simp only [List.flatMap_cons]; rw [h x List.mem_cons_self, ih fun y hy => h y (List.mem_cons_of_mem _ hy)]
theorem near_flat {β : Type} {n : Net} {i : Int} {down : List Bool} (k : Int → List β) (hk : ∀ v : Nat, v < n.routers.length → nearB n i down v = false → k v = []) : (nearP n i down).flatMap k = (List.range n.routers.length).flatMap fun (v : Nat) => k v := by
 unfold nearP
 rw [List.flatMap_map]
 have : ∀ l : List Nat, (∀ v ∈ l, v < n.routers.length) → (l.filter (nearB n i down)).flatMap (fun (v : Nat) => k v) = l.flatMap fun (v : Nat) => k v := by
  intro l
  induction l with
  | nil => intro _; rfl
  | cons v l ih =>
   intro h
   have ih := ih fun w hw => h w (List.mem_cons_of_mem _ hw)
   cases hv : nearB n i down v with
   | true => simp [hv, ih]
   | false => simp [hv, ih, hk v (h v List.mem_cons_self) hv]
 exact this _ fun v hv => List.mem_range.1 hv
theorem opt_flat {β : Type} {n : Net} {i : Int} {env : List Int} {down : List Bool} (k : Int → List β) (hk : ∀ v : Int, v ∉ optP n i env down → k v = []) : (optP n i env down).flatMap k = (List.range (n.routers.length + 3)).flatMap fun (v : Nat) => k ((v : Int) - 3) := by
 have hnear : ∀ v ∈ nearP n i down, 0 ≤ v := fun v hv => (near_mem hv).1
 have h1 : (List.range (n.routers.length + 3)).flatMap (fun (v : Nat) => k ((v : Int) - 3)) = k (-3) ++ (k (-2) ++ (k (-1) ++ (List.range n.routers.length).flatMap fun (v : Nat) => k v)) := by
  rw [Nat.add_comm, List.range_add, List.flatMap_append, List.flatMap_map]
  have h3 : List.range 3 = [0, 1, 2] := rfl
  have h4 : ∀ v : Nat, ((3 + v : Nat) : Int) - 3 = v := fun v => by omega
  simp only [h3, h4]
  simp
 rw [h1]
 have h2 : (nearP n i down).flatMap k = (List.range n.routers.length).flatMap fun (v : Nat) => k v := near_flat k fun v hv hb => hk v fun hm => by
  unfold optP at hm
  rw [List.mem_append] at hm
  rcases hm with hm | hm
  ·split at hm
   ·simp at hm
   ·unfold optL at hm
    rw [List.mem_append] at hm
    rcases hm with hm | hm
    ·split at hm <;> simp at hm
    ·split at hm <;> simp at hm
  ·unfold nearP at hm
   rw [List.mem_map] at hm
   obtain ⟨w, hw, e⟩ := hm
   have : w = v := by omega
   subst this
   rw [(List.mem_filter.1 hw).2] at hb; cases hb
 rw [← h2]
 have hm3 : ∀ v : Int, v < 0 → (v ∈ optP n i env down ↔ v ∈ (if optL n i env = [] then [-3] else optL n i env)) := by
  intro v hv
  unfold optP
  rw [List.mem_append]
  exact ⟨fun h => h.elim id fun h => absurd (hnear v h) (by omega), .inl⟩
 have k3 := hk (-3)
 have k2 := hk (-2)
 have k1 := hk (-1)
 rw [hm3 _ (by omega)] at k3 k2 k1
 unfold optP
 rw [List.flatMap_append]
 unfold optL at k1 k2 k3 ⊢
 by_cases c1 : 0 ≤ hasI n.origins i <;> by_cases c2 : outB n i env = true <;> simp [c1, c2] at k1 k2 k3 ⊢ <;> simp [k1, k2, k3]
theorem choice_flat {β : Type} {n : Net} {env : List Int} {down : List Bool} : ∀ (m : Nat) (h : List Int → List β), (∀ vs : List Int, vs.length = m → (∃ i : Nat, i < m ∧ vs.getD i 0 ∉ optP n i env down) → h vs = []) →
  ((List.range m).foldl (growP n env down) [[]]).flatMap h = (List.range ((n.routers.length + 3) ^ m)).flatMap fun t => h (dig (n.routers.length + 3) m t) := by
 intro m
 induction m with
 | zero => intro h _; simp [dig]
 | succ m ih =>
  intro h hh
  rw [List.range_succ, List.foldl_append]
  simp only [List.foldl_cons, List.foldl_nil]
  generalize hC : (List.range m).foldl (growP n env down) [[]] = C at *
  have hCl : ∀ c ∈ C, c.length = m := by
   intro c hc
   have : ∀ (m : Nat), ∀ vs ∈ (List.range m).foldl (growP n env down) [[]], vs.length = m := by
    intro m
    induction m with
    | zero => intro vs h; simp at h; subst h; rfl
    | succ m ih =>
     intro vs h
     rw [List.range_succ, List.foldl_append] at h
     simp only [List.foldl_cons, List.foldl_nil, growP, List.mem_flatMap, List.mem_map] at h
     obtain ⟨c, hc, v, hv, rfl⟩ := h
     rw [List.length_append, ih c hc]; rfl
   exact this m c (by rw [hC]; exact hc)
  have h1 : (growP n env down C m).flatMap h = C.flatMap fun c => (optP n m env down).flatMap fun v => h (c ++ [v]) := by
   unfold growP
   rw [List.flatMap_assoc]
   congr 1; funext c
   rw [List.flatMap_map]
  have h2 : C.flatMap (fun c => (optP n m env down).flatMap fun v => h (c ++ [v])) = C.flatMap fun c => (List.range (n.routers.length + 3)).flatMap fun (v : Nat) => h (c ++ [(v : Int) - 3]) := by
   have : ∀ c ∈ C, ((optP n m env down).flatMap fun v => h (c ++ [v])) = (List.range (n.routers.length + 3)).flatMap fun (v : Nat) => h (c ++ [(v : Int) - 3]) := by
    intro c hc
    refine opt_flat (fun v => h (c ++ [v])) fun v hv => hh _ (by simp [hCl c hc]) ⟨m, by omega, ?_⟩
    have : (c ++ [v]).getD m 0 = v := by rw [← hCl c hc]; simp [List.getD]
    rw [this]; exact hv
   exact flat_congr this
  rw [h1, h2, ih (fun c => (List.range (n.routers.length + 3)).flatMap fun (v : Nat) => h (c ++ [(v : Int) - 3])) ?_, Nat.pow_succ, range_mul]
  ·refine flat_congr fun q hq => ?_
   refine flat_congr fun r hr => ?_
   have hr := List.mem_range.1 hr
   have e1 : (q * (n.routers.length + 3) + r) / (n.routers.length + 3) = q := by
    rw [Nat.mul_comm, Nat.mul_add_div (by omega), Nat.div_eq_of_lt hr]; rfl
   have e2 : (q * (n.routers.length + 3) + r) % (n.routers.length + 3) = r := by
    rw [Nat.mul_comm, Nat.mul_add_mod, Nat.mod_eq_of_lt hr]
   rw [dig, e1, e2]
  ·rintro vs hv ⟨i, hi, ho⟩
   rw [List.flatMap_eq_nil_iff]
   intro v _
   refine hh _ (by simp [hv]) ⟨i, by omega, ?_⟩
   have : (vs ++ [((v : Nat) : Int) - 3]).getD i 0 = vs.getD i 0 := by
    simp [List.getD, List.getElem?_append, hv, hi]
   rw [this]; exact ho
def stQ (n : Net) (env : List Int) (down : List Bool) (t : Nat) : Option (List Rt) := stateQ n env down (dig (n.routers.length + 3) n.routers.length t)
theorem states_all {n : Net} {env : List Int} {down : List Bool} : (List.range ((n.routers.length + 3) ^ n.routers.length)).filterMap (stQ n env down) = statesP n env down := by
 have hf : ∀ {α β : Type} (g : α → Option β) (l : List α), l.filterMap g = l.flatMap fun x => (g x).toList := by
  intro α β g l
  induction l with
  | nil => rfl
  | cons x l ih => cases h : g x <;> simp [h, ih]
 unfold statesP
 rw [hf, hf]
 have h1 := choice_flat (n := n) (env := env) (down := down) n.routers.length (fun vs => (stateO n env down vs).toList) ?_
 ·have h2 : (List.range n.routers.length).foldl (growP n env down) [[]] = choiceP n env down := rfl
  rw [h2] at h1
  rw [h1]
  congr 1; funext t
  unfold stQ
  rw [stateQ_eq (dig_len _ _ _)]
 ·rintro vs hl ⟨i, hi, ho⟩
  cases h : stateO n env down vs with
  | none => rfl
  | some rs =>
   exfalso
   obtain ⟨h1, h2, h3⟩ := stateO_some hl h
   have hm := h1.mem h2
   simp only [statesP, List.mem_filterMap] at hm
   obtain ⟨ws, hw, hws⟩ := hm
   have hwl := choice_len hw
   obtain ⟨_, _, h5⟩ := stateO_some hwl hws
   rw [h3] at h5
   subst h5
   have : ∀ (m : Nat), ∀ vs ∈ (List.range m).foldl (growP n env down) [[]], vs.length = m ∧ ∀ i : Nat, i < m → vs.getD i 0 ∈ optP n i env down := by
    intro m
    induction m with
    | zero => intro vs h; simp at h; subst h; exact ⟨rfl, fun i hi => by omega⟩
    | succ m ih =>
     intro vs h
     rw [List.range_succ, List.foldl_append] at h
     simp only [List.foldl_cons, List.foldl_nil, growP, List.mem_flatMap, List.mem_map] at h
     obtain ⟨c, hc, v, hv, rfl⟩ := h
     obtain ⟨i1, i2⟩ := ih c hc
     refine ⟨by simp [i1], fun i hi => ?_⟩
     by_cases e : i = m
     ·subst e
      have : (c ++ [v]).getD i 0 = v := by rw [← i1]; simp [List.getD]
      rw [this]; exact hv
     ·have : (c ++ [v]).getD i 0 = c.getD i 0 := by simp [List.getD, List.getElem?_append, i1, show i < m by omega]
      rw [this]; exact i2 i (by omega)
   exact ho ((this _ vs hw).2 i hi)
end
end Go.Proofs.YtabelcohkpmpnaaGreat.Lg
