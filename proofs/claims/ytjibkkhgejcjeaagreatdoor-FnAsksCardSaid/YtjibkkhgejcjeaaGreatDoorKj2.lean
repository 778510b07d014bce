/- What is told of the functions that are reached, as far as it is asked here. -/
import Derived.Test.YtjibkkhgejcjeaaGreatDoorKj1
import Derived.KernelRfl
set_option linter.unusedSimpArgs false
set_option linter.unusedVariables false
namespace Go.Proofs.YtjibkkhgejcjeaaGreatDoor.Lg
open Go
section
structure Rt where
  via : Int
  pref : Int
  len : Int
  mark : Bool
  deriving DecidableEq, Inhabited
def noRt : Rt := ⟨-3, 0, 0, false⟩
def rtC (r : Rt) : List V := [.int .i64 r.via, .int .i64 r.pref, .int .i64 r.len, .bool r.mark]
def rtsV (rs : List Rt) : List V := rs.map fun r => .agg (rtC r)
def rtAt (rs : List Rt) (k : Int) : Rt := rs.getD k.toNat default
/-- Whether the way from a router comes to another one, in so many steps, or does not end. -/
def thr (rs : List Rt) (router : Int) : Nat → Int → Bool
  | 0, _ => true
  | m + 1, k => if k = router then true else if k < 0 then false else if (rtAt rs k).via < 0 then false else thr rs router m (rtAt rs k).via
def throughP (rs : List Rt) (from_ router : Int) : Bool := thr rs router (rs.length + 1) from_
def impSkip (router from_ : Int) (x : Imp) (r : Rt) : Bool := !decide (x.at_ = router) || !decide (x.from_ = from_) || (decide (x.when_ = 1) && !r.mark) || (decide (x.when_ = 2) && r.mark)
def impGo (router from_ : Int) : List Imp → Rt → Option Rt
  | [], r => some r
  | x :: xs, r => if impSkip router from_ x r then impGo router from_ xs r else
      if x.do_ = 1 then none else if x.do_ = 2 then impGo router from_ xs { r with pref := x.n } else impGo router from_ xs { r with mark := decide (x.do_ = 3) }
def linkAtP (n : Net) (a b : Int) : Link := n.links.getD (linkP n.links a b).toNat default
def importO (n : Net) (router from_ : Int) (r : Rt) : Option Rt := impGo router from_ n.imports ⟨from_, 100, r.len + (linkAtP n router from_).cost, r.mark⟩
def hasI (xs : List Int) (x : Int) : Int := firstP (fun y => decide (y = x)) xs
def nearB (n : Net) (router : Int) (down : List Bool) (k : Nat) : Bool := decide (0 ≤ linkP n.links router k) && !down.getD (linkP n.links router k).toNat false
def nearP (n : Net) (router : Int) (down : List Bool) : List Int := ((List.range n.routers.length).filter (nearB n router down)).map fun (k : Nat) => (k : Int)
def ownL (n : Net) (router : Int) : List Rt := if 0 ≤ hasI n.origins router then [⟨-2, 200, 0, false⟩] else []
def outB (n : Net) (router : Int) (env : List Int) : Bool := decide (0 ≤ hasI n.externals router) && decide (0 < env.getD (hasI n.externals router).toNat 0)
def outL (n : Net) (router : Int) (env : List Int) : List Rt := if outB n router env then [⟨-1, 100, 2, decide (env.getD (hasI n.externals router).toNat 0 = 2)⟩] else []
def viaO (n : Net) (router : Int) (rs : List Rt) (v : Int) : Option Rt := if (rtAt rs v).via = -3 ∨ throughP rs v router then none else importO n router v (rtAt rs v)
def candP (n : Net) (router : Int) (env : List Int) (down : List Bool) (rs : List Rt) : List Rt :=
  ownL n router ++ outL n router env ++ (nearP n router down).filterMap (viaO n router rs)
def betterP (a b : Rt) : Bool := if a.pref ≠ b.pref then decide (b.pref < a.pref) else if a.len ≠ b.len then decide (a.len < b.len) else decide (a.via < b.via)
def bestStep (o r : Rt) : Rt := if o.via = -3 ∨ betterP r o then r else o
def bestP (l : List Rt) : Rt := l.foldl bestStep noRt
def ofStep (n : Net) (env : List Int) (down : List Bool) (vias : List Int) (s : List Rt × List Bool) (i : Nat) : Option (List Rt × List Bool) :=
  if s.2.getD i false ∨ (0 ≤ vias.getD i 0 ∧ s.2.getD (vias.getD i 0).toNat false = false) then some s
  else if vias.getD i 0 = -3 then some (s.1, s.2.set i true)
  else match ((candP n i env down s.1).filter fun r => decide (r.via = vias.getD i 0)).getLast? with
    | none => none
    | some r => some (s.1.set i r, s.2.set i true)
def ofRound (n : Net) (env : List Int) (down : List Bool) (vias : List Int) (s : List Rt × List Bool) : Option (List Rt × List Bool) := (List.range vias.length).foldlM (ofStep n env down vias) s
def ofP (n : Net) (env : List Int) (down : List Bool) (vias : List Int) : Option (List Rt) :=
  ((List.range (vias.length + 1)).foldlM (fun s _ => ofRound n env down vias s) (List.replicate vias.length noRt, List.replicate vias.length false)).bind fun s => if s.2.all id then some s.1 else none
def stableB (n : Net) (env : List Int) (down : List Bool) (rs : List Rt) : Bool := (List.range rs.length).all fun i => decide (bestP (candP n i env down rs) = rs.getD i default)
def optL (n : Net) (router : Int) (env : List Int) : List Int :=
  (if 0 ≤ hasI n.origins router then [-2] else []) ++ (if outB n router env then [-1] else [])
def optP (n : Net) (router : Int) (env : List Int) (down : List Bool) : List Int :=
  (if optL n router env = [] then [-3] else optL n router env) ++ nearP n router down
def growP (n : Net) (env : List Int) (down : List Bool) (out : List (List Int)) (i : Nat) : List (List Int) := out.flatMap fun c => (optP n i env down).map fun v => c ++ [v]
def choiceP (n : Net) (env : List Int) (down : List Bool) : List (List Int) := (List.range n.routers.length).foldl (growP n env down) [[]]
def stateO (n : Net) (env : List Int) (down : List Bool) (vs : List Int) : Option (List Rt) := (ofP n env down vs).bind fun rs => if stableB n env down rs then some rs else none
def statesP (n : Net) (env : List Int) (down : List Bool) : List (List Rt) := (choiceP n env down).filterMap (stateO n env down)
/-- Where a packet ends, and its way. -/
def walkGo (n : Net) (rs : List Rt) (port : Int) : Nat → Int → List Int → Int × List Int
  | 0, _, path => (3, path)
  | m + 1, at_, path =>
    if (rtAt rs at_).via = -2 then (1, path) else if (rtAt rs at_).via = -1 then (2, path) else if (rtAt rs at_).via = -3 then (3, path)
    else if n.filters.any (filtB at_ (rtAt rs at_).via port) then (4, path) else walkGo n rs port m (rtAt rs at_).via (path ++ [(rtAt rs at_).via])
def walkP (n : Net) (rs : List Rt) (from_ port : Int) : Int × List Int := walkGo n rs port rs.length from_ [from_]
end
section
theorem foldlM_mem {α β : Type} {f : β → α → Option β} {I : β → Prop} : ∀ {l : List α} {s t : β}, (∀ s a t, a ∈ l → I s → f s a = some t → I t) → I s → l.foldlM f s = some t → I t := by
  intro l
  induction l with
  | nil => intro s t hf h e; simp at e; subst e; exact h
  | cons a r ih =>
    intro s t hf h e
    rw [List.foldlM_cons, Option.bind_eq_bind, Option.bind_eq_some_iff] at e
    obtain ⟨u, h1, h2⟩ := e
    exact ih (fun s b t hb => hf s b t (by simp [hb])) (hf s a u (by simp) h h1) h2
/-- A route that a router may have, no longer than told. -/
structure RtIn (n : Net) (down : List Bool) (L : Int) (i : Nat) (r : Rt) : Prop where
  via : -3 ≤ r.via ∧ r.via < n.routers.length
  pref : 0 ≤ r.pref ∧ r.pref ≤ 1000
  len : 0 ≤ r.len ∧ r.len ≤ L
  link : 0 ≤ r.via → 0 ≤ linkP n.links i r.via ∧ down.getD (linkP n.links i r.via).toNat false = false
  none : r.via = -3 → r = noRt
theorem RtIn.mono {n : Net} {down : List Bool} {L M : Int} {i : Nat} {r : Rt} (h : RtIn n down L i r) (hl : L ≤ M) : RtIn n down M i r :=
  ⟨h.via, h.pref, ⟨h.len.1, Int.le_trans h.len.2 hl⟩, h.link, h.none⟩
theorem noRt_in (n : Net) (down : List Bool) {L : Int} (hL : 0 ≤ L) (i : Nat) : RtIn n down L i noRt :=
  ⟨⟨by simp [noRt], by simp [noRt]; omega⟩, by simp [noRt], by simp [noRt]; omega, by simp [noRt], fun _ => rfl⟩
/-- What a right network says of its parts. -/
structure NetR (n : Net) : Prop where
  r1 : 1 ≤ n.routers.length
  r4 : n.routers.length ≤ 4
  l6 : n.links.length ≤ 6
  i12 : n.imports.length ≤ 12
  f6 : n.filters.length ≤ 6
  x2 : n.externals.length ≤ 2
  cost : ∀ l ∈ n.links, 1 ≤ l.cost ∧ l.cost ≤ 100
  ends : ∀ l ∈ n.links, (0 ≤ l.a ∧ l.a < n.routers.length) ∧ (0 ≤ l.b ∧ l.b < n.routers.length)
  imp : ∀ x ∈ n.imports, 0 ≤ x.n ∧ x.n ≤ 1000
theorem netR_of {n : Net} (h : netB n = true) : NetR n := by
  simp only [netB, Bool.and_eq_true, decide_eq_true_eq, List.all_eq_true] at h
  obtain ⟨⟨⟨⟨⟨⟨⟨⟨⟨⟨⟨h1, h2⟩, h3⟩, h4⟩, h5⟩, h6⟩, h7⟩, h8⟩, h9⟩, h10⟩, h11⟩, h12⟩ := h
  have hlk : ∀ l ∈ n.links, (1 ≤ l.cost ∧ l.cost ≤ 100) ∧ (0 ≤ l.a ∧ l.a < n.routers.length) ∧ (0 ≤ l.b ∧ l.b < n.routers.length) := by
    intro l hl
    obtain ⟨i, hi, rfl⟩ := List.getElem_of_mem hl
    have := h7 i (List.mem_range.2 hi)
    simp only [linkAt, List.getD, List.getElem?_eq_getElem hi, Option.getD_some, routerB, inB, Bool.and_eq_true, decide_eq_true_eq] at this
    omega
  refine ⟨h1, h2, h3, h4, h5, h12, fun l hl => (hlk l hl).1, fun l hl => (hlk l hl).2, fun x hx => ?_⟩
  have := h8 x hx
  simp only [impOn, impB, inB, Bool.and_eq_true, decide_eq_true_eq] at this
  have := this.2.2
  split at this <;> omega
theorem impGo_in {router from_ : Int} : ∀ {xs : List Imp} {r s : Rt}, (∀ x ∈ xs, 0 ≤ x.n ∧ x.n ≤ 1000) → impGo router from_ xs r = some s → (0 ≤ r.pref ∧ r.pref ≤ 1000) → s.via = r.via ∧ s.len = r.len ∧ 0 ≤ s.pref ∧ s.pref ≤ 1000 := by
  intro xs
  induction xs with
  | nil => intro r s _ h hp; simp [impGo] at h; subst h; exact ⟨rfl, rfl, hp⟩
  | cons x xs ih =>
    intro r s hx h hp
    have hx' := fun y hy => hx y (List.mem_cons_of_mem x hy)
    have h0 := hx x (by simp)
    simp only [impGo] at h
    split at h
    · exact ih hx' h hp
    split at h
    · cases h
    split at h
    · have := ih hx' h (by exact h0)
      exact this
    · have := ih hx' h (by exact hp)
      exact this
theorem near_mem {n : Net} {i : Int} {down : List Bool} {v : Int} (h : v ∈ nearP n i down) : 0 ≤ v ∧ v < n.routers.length ∧ 0 ≤ linkP n.links i v ∧ down.getD (linkP n.links i v).toNat false = false := by
  simp only [nearP, List.mem_map, List.mem_filter, List.mem_range, nearB, Bool.and_eq_true, decide_eq_true_eq, Bool.not_eq_true'] at h
  obtain ⟨k, ⟨h1, h2, h3⟩, rfl⟩ := h
  exact ⟨by omega, by omega, h2, h3⟩
theorem linkP_lt {ls : List Link} {a b : Int} : linkP ls a b < ls.length := by
  unfold linkP firstP
  cases h : ls.findIdx? (joinB a b) with
  | none => simp; omega
  | some i => have := List.findIdx?_eq_some_iff_findIdx_eq.1 h; simp; omega
theorem cost_in {n : Net} (hn : NetR n) {a b : Int} (h : 0 ≤ linkP n.links a b) : 1 ≤ (linkAtP n a b).cost ∧ (linkAtP n a b).cost ≤ 100 := by
  have hl := linkP_lt (ls := n.links) (a := a) (b := b)
  have hi : (linkP n.links a b).toNat < n.links.length := by omega
  unfold linkAtP
  rw [List.getD_eq_getElem?_getD, List.getElem?_eq_getElem hi]
  exact hn.cost _ (List.getElem_mem hi)
/-- What a router could have is right, a link longer than what its neighbours have. -/
theorem cand_in {n : Net} (hn : NetR n) {env : List Int} {down : List Bool} {rs : List Rt} {L : Int} (hL : 2 ≤ L) (hrs : ∀ v, 0 ≤ (rtAt rs v).len ∧ (rtAt rs v).len ≤ L) {i : Nat} {r : Rt} (h : r ∈ candP n i env down rs) :
    RtIn n down (L + 100) i r ∧ r.via ≠ -3 ∧ (0 ≤ r.via → r.via ∈ nearP n i down ∧ (rtAt rs r.via).via ≠ -3 ∧ throughP rs r.via i = false) := by
  simp only [candP, List.mem_append, List.mem_filterMap] at h
  rcases h with (h | h) | ⟨v, hv, h⟩
  · simp only [ownL] at h
    split at h
    · simp at h; subst h; exact ⟨⟨⟨by simp, by simp; omega⟩, by simp, by simp; omega, by simp, by simp⟩, by simp, by simp⟩
    · cases h
  · simp only [outL] at h
    split at h
    · simp at h; subst h; exact ⟨⟨⟨by simp, by simp; omega⟩, by simp, by simp; omega, by simp, by simp⟩, by simp, by simp⟩
    · cases h
  · obtain ⟨n1, n2, n3, n4⟩ := near_mem hv
    unfold viaO at h
    split at h
    · cases h
    rename_i hno
    simp only [not_or, Bool.not_eq_true] at hno
    have hc := cost_in hn n3
    have hv2 := hrs v
    obtain ⟨e1, e2, e3, e4⟩ := impGo_in hn.imp h (by simp)
    simp only at e1 e2
    refine ⟨⟨⟨by omega, by omega⟩, ⟨e3, e4⟩, ⟨by omega, by omega⟩, fun _ => by rw [e1]; exact ⟨n3, n4⟩, fun h3 => by omega⟩, by omega, fun _ => by rw [e1]; exact ⟨hv, hno.1, hno.2⟩⟩
/-- A way that ends: after so many steps it is at no router. -/
def ends (rs : List Rt) : Nat → Int → Prop
  | 0, k => k < 0
  | m + 1, k => k < 0 ∨ ends rs m (rtAt rs k).via
theorem ends.succ {rs : List Rt} : ∀ {m : Nat} {k : Int}, ends rs m k → ends rs (m + 1) k := by
  intro m
  induction m with
  | zero => intro k h; exact .inl h
  | succ m ih => intro k h; exact h.imp_right ih
theorem ends.le {rs : List Rt} {m m' : Nat} {k : Int} (h : ends rs m k) (hm : m ≤ m') : ends rs m' k := by
  induction hm with
  | refl => exact h
  | step _ ih => exact ih.succ
def doneAt (d : List Bool) (k : Int) : Bool := d.getD k.toNat false
/-- What is kept while routes are worked out. -/
structure OfI (n : Net) (down : List Bool) (s : List Rt × List Bool) : Prop where
  len : s.1.length = s.2.length
  ok : ∀ i, i < s.1.length → RtIn n down (2 + 100 * (s.2.count true : Nat)) i (s.1.getD i default)
  shut : ∀ i : Nat, s.2.getD i false = true → 0 ≤ (s.1.getD i default).via → doneAt s.2 (s.1.getD i default).via = true
  ends : ∀ i : Nat, s.2.getD i false = true → ends s.1 (s.2.count true) i
  none : ∀ i : Nat, i < s.1.length → s.2.getD i false = false → s.1.getD i default = noRt
theorem count_set {d : List Bool} {i : Nat} (hi : i < d.length) (h : d.getD i false = false) : (d.set i true).count true = d.count true + 1 := by
  induction d generalizing i with
  | nil => simp at hi
  | cons a r ih =>
    cases i with
    | zero =>
      simp at h
      subst h
      simp
    | succ i =>
      simp at hi h
      simp only [List.set_cons_succ, List.count_cons]
      rw [ih hi (by simpa using h)]
      omega
theorem getD_set_same {α : Type} {l : List α} {i : Nat} {x d : α} (hi : i < l.length) : (l.set i x).getD i d = x := by simp [List.getD, hi]
theorem getD_set_ne {α : Type} {l : List α} {i j : Nat} {x d : α} (hij : j ≠ i) : (l.set i x).getD j d = l.getD j d := by
  simp only [List.getD, List.getElem?_set_ne (fun e => hij e.symm)]
theorem ends_set {rs : List Rt} {d : List Bool} {i : Nat} {r : Rt} (hd : d.getD i false = false) (hs : ∀ j : Nat, d.getD j false = true → 0 ≤ (rs.getD j default).via → doneAt d (rs.getD j default).via = true) : ∀ {m : Nat} {k : Nat}, d.getD k false = true → ends rs m k → ends (rs.set i r) m k := by
  intro m
  induction m with
  | zero => intro k _ h; exact h
  | succ m ih =>
    intro k hk h
    rcases h with h | h
    · exact .inl h
    · right
      have hki : k ≠ i := fun e => by subst e; rw [hk] at hd; cases hd
      have e1 : rtAt (rs.set i r) (k : Int) = rs.getD k default := by simp only [rtAt, Int.toNat_natCast]; exact getD_set_ne hki
      have e2 : rtAt rs (k : Int) = rs.getD k default := by simp only [rtAt, Int.toNat_natCast]
      rw [e1]
      rw [e2] at h
      by_cases hv : 0 ≤ (rs.getD k default).via
      · have h1 := hs k hk hv
        obtain ⟨v, hv2⟩ : ∃ v : Nat, (rs.getD k default).via = v := ⟨(rs.getD k default).via.toNat, by omega⟩
        rw [hv2] at h h1 ⊢
        exact ih h1 h
      · cases m with
        | zero => exact (by omega : (rs.getD k default).via < 0)
        | succ m => exact .inl (by omega)
theorem ofStep_inv {n : Net} (hn : NetR n) {env : List Int} {down : List Bool} {vias : List Int} {s t : List Rt × List Bool} {i : Nat} (hi : i < s.1.length) (h : OfI n down s) (e : ofStep n env down vias s i = some t) : OfI n down t ∧ t.1.length = s.1.length := by
  unfold ofStep at e
  split at e
  · cases e; exact ⟨h, rfl⟩
  rename_i hno
  simp only [not_or, not_and, Bool.not_eq_true, Bool.not_eq_false] at hno
  obtain ⟨hd, hv⟩ := hno
  have hcount := count_set (by rw [← h.len]; exact hi) hd
  have hlen := h.len
  have hinr : ∀ v, 0 ≤ (rtAt s.1 v).len ∧ (rtAt s.1 v).len ≤ 2 + 100 * (s.2.count true : Nat) := by
    intro v
    by_cases hvl : v.toNat < s.1.length
    · have := (h.ok _ hvl).len; exact this
    · have : rtAt s.1 v = default := by simp [rtAt, List.getD, show s.1.length ≤ v.toNat by omega]
      rw [this]; exact ⟨Int.le_refl _, by show (0 : Int) ≤ _; omega⟩
  -- a new route, whose neighbour is done
  have main : ∀ r : Rt, RtIn n down (2 + 100 * (s.2.count true : Nat) + 100) i r → (0 ≤ r.via → doneAt s.2 r.via = true) → OfI n down (s.1.set i r, s.2.set i true) := by
    intro r hr hvd
    refine ⟨by simp [hlen], fun j hj => ?_, fun j hj hv2 => ?_, fun j hj => ?_, fun j hj hjd => ?_⟩
    · simp only [List.length_set] at hj
      rw [hcount]
      by_cases e : j = i
      · subst e
        rw [getD_set_same hi]
        exact hr.mono (by simp only [Int.natCast_add]; omega)
      · rw [getD_set_ne e]
        exact (h.ok j hj).mono (by simp only [Int.natCast_add]; omega)
    · by_cases e : j = i
      · subst e
        simp only at hv2 ⊢
        rw [getD_set_same hi] at hv2 ⊢
        have := hvd hv2
        unfold doneAt at this ⊢
        by_cases e2 : r.via.toNat = j
        · rw [e2, getD_set_same (by omega)]
        · rw [getD_set_ne e2]; exact this
      · simp only at hv2 hj ⊢
        rw [getD_set_ne e] at hv2 hj ⊢
        have := h.shut j hj hv2
        unfold doneAt at this ⊢
        by_cases e2 : (s.1.getD j default).via.toNat = i
        · rw [e2, getD_set_same (by omega)]
        · rw [getD_set_ne e2]; exact this
    · rw [hcount]
      by_cases e : j = i
      · subst e
        right
        have e1 : rtAt (s.1.set j r) (j : Int) = r := by simp only [rtAt, Int.toNat_natCast]; exact getD_set_same hi
        rw [e1]
        by_cases hv2 : 0 ≤ r.via
        · obtain ⟨v, hv3⟩ : ∃ v : Nat, r.via = v := ⟨r.via.toNat, by omega⟩
          have h1 := hvd hv2
          rw [hv3] at h1 ⊢
          exact ends_set hd h.shut h1 (h.ends v h1)
        · cases hc : s.2.count true with
          | zero => exact (by omega : r.via < 0)
          | succ m => exact .inl (by omega)
      · simp only at hj
        rw [getD_set_ne e] at hj
        exact (ends_set hd h.shut hj (h.ends j hj)).succ
    · simp only [List.length_set] at hj
      by_cases e : j = i
      · subst e
        simp only at hjd
        rw [getD_set_same (by omega)] at hjd
        cases hjd
      · simp only at hjd ⊢
        rw [getD_set_ne e] at hjd ⊢
        exact h.none j hj hjd
  split at e
  · rename_i h3
    cases e
    have := main noRt (noRt_in n down (by omega) i) (by simp [noRt])
    have hset : s.1.set i noRt = s.1 := by
      have h0 := h.none i hi hd
      rw [List.getD_eq_getElem?_getD, List.getElem?_eq_getElem hi, Option.getD_some] at h0
      rw [← h0]; exact List.set_getElem_self hi
    rw [hset] at this
    exact ⟨this, rfl⟩
  · rename_i h3
    split at e
    · cases e
    · rename_i r hr
      cases e
      have hmem := List.mem_of_getLast? hr
      simp only [List.mem_filter, decide_eq_true_eq] at hmem
      obtain ⟨c1, c2, c3⟩ := cand_in hn (L := 2 + 100 * (s.2.count true : Nat)) (by omega) hinr hmem.1
      refine ⟨main r c1 fun h0 => ?_, by simp⟩
      rw [hmem.2]
      exact hv (by rw [← hmem.2]; exact h0)
theorem ofRound_inv {n : Net} (hn : NetR n) {env : List Int} {down : List Bool} {vias : List Int} {s t : List Rt × List Bool} (hl : s.1.length = vias.length) (h : OfI n down s) (e : ofRound n env down vias s = some t) : OfI n down t ∧ t.1.length = vias.length := by
  unfold ofRound at e
  refine foldlM_mem (I := fun s => OfI n down s ∧ s.1.length = vias.length) (fun s a t ha hs he => ?_) ⟨h, hl⟩ e
  have h1 := ofStep_inv hn (by rw [hs.2]; exact List.mem_range.1 ha) hs.1 he
  exact ⟨h1.1, h1.2.trans hs.2⟩
theorem ofI_start (n : Net) (down : List Bool) (L : Nat) : OfI n down (List.replicate L noRt, List.replicate L false) := by
  have hf : ∀ i : Nat, (List.replicate L false).getD i false = false := fun i => by
    simp only [List.getD, List.getElem?_replicate]
    split <;> rfl
  refine ⟨by simp, fun i hi => ?_, fun i hi => ?_, fun i hi => ?_, fun i hi _ => ?_⟩
  · simp only [List.length_replicate] at hi
    have : (List.replicate L noRt).getD i default = noRt := by simp [List.getD, hi]
    simp only [this]
    exact noRt_in n down (by omega) i
  · simp only at hi; rw [hf] at hi; cases hi
  · simp only at hi; rw [hf] at hi; cases hi
  · simp only [List.length_replicate] at hi
    simp [List.getD, hi]
theorem ofP_fine {n : Net} (hn : NetR n) {env : List Int} {down : List Bool} {vias : List Int} {rs : List Rt} (e : ofP n env down vias = some rs) :
    rs.length = vias.length ∧ (∀ i, i < rs.length → RtIn n down (2 + 100 * (rs.length : Nat)) i (rs.getD i default)) ∧ ∀ i : Nat, i < rs.length → ends rs rs.length i := by
  unfold ofP at e
  rw [Option.bind_eq_some_iff] at e
  obtain ⟨s, h1, h2⟩ := e
  have hI := foldlM_mem (I := fun s => OfI n down s ∧ s.1.length = vias.length) (fun s a t ha hs he => ofRound_inv hn hs.2 hs.1 he) ⟨ofI_start n down _, by simp⟩ h1
  split at h2
  · rename_i hall
    cases h2
    obtain ⟨hI, hl⟩ := hI
    have hc : s.2.count true = s.1.length := by
      rw [hI.len, List.count_eq_length]
      intro b hb
      have := List.all_eq_true.1 hall b hb
      simpa using this.symm
    have h3 := hI.ok
    have h4 := hI.ends
    rw [hc] at h3 h4
    refine ⟨hl, h3, fun i hi => h4 i ?_⟩
    have hi2 : i < s.2.length := by rw [← hI.len]; exact hi
    have := List.all_eq_true.1 hall _ (List.getElem_mem hi2)
    simp [List.getD, hi2]
    simpa using this
  · cases h2
theorem choice_len {n : Net} {env : List Int} {down : List Bool} {vs : List Int} (h : vs ∈ choiceP n env down) : vs.length = n.routers.length := by
  have : ∀ (m : Nat), ∀ vs ∈ (List.range m).foldl (growP n env down) [[]], vs.length = m := by
    intro m
    induction m with
    | zero => intro vs h; simp at h; subst h; rfl
    | succ m ih =>
      intro vs h
      rw [List.range_succ, List.foldl_append] at h
      simp only [List.foldl_cons, List.foldl_nil, growP, List.mem_flatMap, List.mem_map] at h
      obtain ⟨c, hc, v, hv, rfl⟩ := h
      rw [List.length_append, ih c hc]; rfl
  exact this _ vs h
/-- A state that was found: its routes are right, no link that they take is down, and the ways end. -/
structure StateR (n : Net) (down : List Bool) (rs : List Rt) : Prop where
  len : rs.length = n.routers.length
  ok : ∀ i, i < rs.length → RtIn n down 10000 i (rs.getD i default)
  ends : ∀ i : Nat, i < rs.length → ends rs rs.length i
theorem statesP_fine {n : Net} (hn : NetR n) {env : List Int} {down : List Bool} {rs : List Rt} (h : rs ∈ statesP n env down) : StateR n down rs := by
  simp only [statesP, List.mem_filterMap, stateO, Option.bind_eq_some_iff] at h
  obtain ⟨vs, h1, rs', h2, h3⟩ := h
  split at h3
  · cases h3
    obtain ⟨e1, e2, e3⟩ := ofP_fine hn h2
    have hl := choice_len h1
    have := hn.r4
    exact ⟨by omega, fun i hi => (e2 i hi).mono (by omega), e3⟩
  · cases h3
/-- What the law of ways asks of a way. -/
theorem walkGo_ok {n : Net} {down : List Bool} {rs : List Rt} (h : StateR n down rs) {port : Int} : ∀ (m : Nat) (at_ : Nat) (path : List Int), at_ < rs.length → ends rs m at_ → path ≠ [] → path.getLast? = some (at_ : Int) →
    (∀ x ∈ path, 0 ≤ x ∧ x < rs.length) → (∀ k : Nat, k + 1 < path.length → (rtAt rs (path.getD k 0)).via = path.getD (k + 1) 0) →
    (walkGo n rs port m at_ path).2 ≠ [] ∧ (walkGo n rs port m at_ path).2.getD 0 0 = path.getD 0 0 ∧ (∀ x ∈ (walkGo n rs port m at_ path).2, 0 ≤ x ∧ x < rs.length) ∧ (walkGo n rs port m at_ path).2.length ≤ path.length + m ∧
    (∀ k : Nat, k + 1 < (walkGo n rs port m at_ path).2.length → (rtAt rs ((walkGo n rs port m at_ path).2.getD k 0)).via = (walkGo n rs port m at_ path).2.getD (k + 1) 0) ∧
    ∃ v, (walkGo n rs port m at_ path).2.getLast?.map (fun x => (rtAt rs x).via) = some v ∧ (1 ≤ (walkGo n rs port m at_ path).1 ∧ (walkGo n rs port m at_ path).1 ≤ 4) ∧
      ((walkGo n rs port m at_ path).1 = 1 → v = -2) ∧ ((walkGo n rs port m at_ path).1 = 2 → v = -1) ∧ ((walkGo n rs port m at_ path).1 = 3 → v = -3) ∧ ((walkGo n rs port m at_ path).1 = 4 → 0 ≤ v) := by
  intro m
  induction m with
  | zero => intro at_ path _ he; exact absurd he (by simp [ends])
  | succ m ih =>
    intro at_ path hat he hne hlast hall hstep
    have hat' : ((at_ : Int).toNat) = at_ := Int.toNat_natCast _
    have hok := h.ok at_ hat
    have hv := hok.via
    have hlen := h.len
    have ert : rtAt rs (at_ : Int) = rs.getD at_ default := by simp only [rtAt, hat']
    have he2 : ends rs m (rtAt rs (at_ : Int)).via := he.resolve_left (by omega)
    unfold walkGo
    split
    · rename_i h1; exact ⟨hne, rfl, hall, by simp only; omega, hstep, _, by rw [hlast]; rfl, by simp, fun _ => h1, by simp, by simp, by simp⟩
    split
    · rename_i h1; exact ⟨hne, rfl, hall, by simp only; omega, hstep, _, by rw [hlast]; rfl, by simp, by simp, fun _ => h1, by simp, by simp⟩
    split
    · rename_i h1; exact ⟨hne, rfl, hall, by simp only; omega, hstep, _, by rw [hlast]; rfl, by simp, by simp, by simp, fun _ => h1, by simp⟩
    rw [← ert] at hv
    have hv0 : 0 ≤ (rtAt rs (at_ : Int)).via := by omega
    split
    · exact ⟨hne, rfl, hall, by simp only; omega, hstep, _, by rw [hlast]; rfl, by simp, by simp, by simp, by simp, fun _ => hv0⟩
    obtain ⟨v, hvn⟩ : ∃ v : Nat, (rtAt rs (at_ : Int)).via = v := ⟨(rtAt rs (at_ : Int)).via.toNat, by omega⟩
    rw [hvn] at he2 hv ⊢
    have hlp : 0 < path.length := List.length_pos_iff.2 hne
    obtain ⟨g1, g2, g3, g4, g5, g6⟩ := ih v (path ++ [(v : Int)]) (by omega) he2 (by simp) (by simp) (fun x hx => by
      rcases List.mem_append.1 hx with hx | hx
      · exact hall x hx
      · simp at hx; subst hx; omega) (fun k hk => by
      rw [List.length_append, List.length_singleton] at hk
      by_cases hk2 : k + 1 < path.length
      · have := hstep k hk2
        simp only [List.getD, List.getElem?_append_left (by omega : k < path.length), List.getElem?_append_left hk2] at this ⊢
        exact this
      · have hkl : k = path.length - 1 := by omega
        have e1 : (path ++ [(v : Int)]).getD (k + 1) 0 = v := by simp [List.getD, List.getElem?_append_right (by omega : path.length ≤ k + 1), show k + 1 - path.length = 0 by omega]
        have e2 : (path ++ [(v : Int)]).getD k 0 = at_ := by
          rw [List.getLast?_eq_getElem?] at hlast
          subst hkl
          rw [List.getD_eq_getElem?_getD, List.getElem?_append_left (by omega : path.length - 1 < path.length), hlast, Option.getD_some]
        rw [e1, e2]
        exact hvn)
    refine ⟨g1, ?_, g3, by rw [List.length_append, List.length_singleton] at g4; omega, g5, g6⟩
    rw [g2]
    simp only [List.getD, List.getElem?_append_left hlp]
end
section
def lksB (r : Int) (ls : List Link) : Bool := (List.range ls.length).all (linkAt r ls)
theorem getD_snoc_lt {α : Type} {xs : List α} {x d : α} {j : Nat} (h : j < xs.length) : (xs ++ [x]).getD j d = xs.getD j d := by simp [List.getD, List.getElem?_append_left h]
theorem getD_snoc_eq {α : Type} {xs : List α} {x d : α} : (xs ++ [x]).getD xs.length d = x := by simp [List.getD]
theorem linkP_any {ls : List Link} {a b : Int} (h : linkP ls a b < 0) : ls.any (joinB a b) = false := by
  have := first_any (p := joinB a b) (xs := ls)
  rw [← this]; exact decide_eq_false (by unfold linkP at h; omega)
theorem linkP_mem {ls : List Link} {a b : Int} {l : Link} (hl : l ∈ ls) (h : joinB a b l = true) : 0 ≤ linkP ls a b := by
  have h1 := first_any (p := joinB a b) (xs := ls)
  have h2 : ls.any (joinB a b) = true := List.any_eq_true.2 ⟨l, hl, h⟩
  rw [h2] at h1
  have := of_decide_eq_true h1
  unfold linkP; omega
theorem lksB_snoc {r : Int} {ls : List Link} {l : Link} (h : lksB r ls = true) (ha : routerB r l.a = true) (hb : routerB r l.b = true) (hab : l.a ≠ l.b) (hc : inB l.cost 1 100 = true) (hno : linkP ls l.a l.b < 0) : lksB r (ls ++ [l]) = true := by
  unfold lksB at *
  refine range_all fun j hj => ?_
  rw [List.length_append, List.length_singleton] at hj
  by_cases e : j = ls.length
  · subst e
    unfold linkAt
    rw [getD_snoc_eq, List.take_left, linkP_any hno, ha, hb, hc, decide_eq_false hab]; rfl
  · have hlt : j < ls.length := by omega
    have h1 := List.all_eq_true.1 h j (List.mem_range.2 hlt)
    unfold linkAt at *
    rw [getD_snoc_lt hlt, List.take_append_of_le_length (by omega)]; exact h1
def insK (xs : List Int) (n : Int) : Nat := (xs.takeWhile fun x => decide (x < n)).length
def insO (xs : List Int) (n : Int) : Bool := !(decide (insK xs n < xs.length) && decide (xs.getD (insK xs n) 0 = n))
def insP (xs : List Int) (n : Int) : List Int := if insO xs n then xs.take (insK xs n) ++ [n] ++ xs.drop (insK xs n) else xs
theorem rising_iff {r : Int} {xs : List Int} : risingB r xs = true ↔ (∀ x ∈ xs, 0 ≤ x ∧ x < r) ∧ ∀ i : Nat, i + 1 < xs.length → xs.getD i 0 < xs.getD (i + 1) 0 := by
  unfold risingB
  rw [List.all_eq_true]
  constructor
  · intro h
    have h' : ∀ j, j < xs.length → riseB r xs j = true := fun j hj => h j (List.mem_range.2 hj)
    refine ⟨fun x hx => ?_, fun i hi => ?_⟩
    · obtain ⟨j, hj, rfl⟩ := List.getElem_of_mem hx
      have := h' j hj
      simp only [riseB, routerB, Bool.and_eq_true, decide_eq_true_eq] at this
      have e : xs.getD j 0 = xs[j] := by simp [List.getD, hj]
      omega
    · have := h' (i + 1) hi
      simp only [riseB, Bool.and_eq_true, Bool.or_eq_true, decide_eq_true_eq, Nat.add_sub_cancel] at this
      rcases this.2 with e | e
      · omega
      · exact e
  · rintro ⟨h1, h2⟩ j hj
    have hj := List.mem_range.1 hj
    have := h1 _ (getD_mem 0 hj)
    simp only [riseB, routerB, Bool.and_eq_true, Bool.or_eq_true, decide_eq_true_eq]
    refine ⟨by omega, ?_⟩
    by_cases e : j = 0
    · exact .inl e
    · have := h2 (j - 1) (by omega)
      rw [show j - 1 + 1 = j by omega] at this
      exact .inr this
theorem insK_le (xs : List Int) (n : Int) : insK xs n ≤ xs.length := by
  unfold insK
  exact (List.takeWhile_prefix _).length_le
theorem insK_before {xs : List Int} {n : Int} : ∀ {i : Nat}, i < insK xs n → xs.getD i 0 < n := by
  unfold insK
  induction xs with
  | nil => intro i h; simp at h
  | cons x r ih =>
    intro i h
    by_cases hx : x < n
    · simp only [List.takeWhile_cons, decide_eq_true hx, if_true, List.length_cons] at h
      cases i with
      | zero => simpa using hx
      | succ i => rw [List.getD_cons_succ]; exact ih (by omega)
    · simp [List.takeWhile_cons, decide_eq_false hx] at h
theorem insK_stop {xs : List Int} {n : Int} (h : insK xs n < xs.length) : n ≤ xs.getD (insK xs n) 0 := by
  unfold insK at *
  induction xs with
  | nil => simp at h
  | cons x r ih =>
    by_cases hx : x < n
    · simp only [List.takeWhile_cons, decide_eq_true hx, if_true, List.length_cons, List.getD_cons_succ] at h ⊢
      exact ih (by omega)
    · simp only [List.takeWhile_cons, decide_eq_false hx] at h ⊢
      simp; omega
theorem ins_rising {r : Int} {xs : List Int} {n : Int} (h : risingB r xs = true) (hn : 0 ≤ n ∧ n < r) : risingB r (insP xs n) = true := by
  unfold insP
  cases ho : insO xs n with
  | false => exact h
  | true =>
    simp only [if_true]
    have hk := insK_le xs n
    have hst := insK_stop (xs := xs) (n := n)
    have hbe := fun i => insK_before (xs := xs) (n := n) (i := i)
    have hne : insK xs n < xs.length → xs.getD (insK xs n) 0 ≠ n := by
      intro hlt he
      simp only [insO, decide_eq_true hlt, decide_eq_true he] at ho; simp at ho
    generalize insK xs n = k at *
    rw [rising_iff] at h ⊢
    obtain ⟨h1, h2⟩ := h
    refine ⟨fun x hx => ?_, fun i hi => ?_⟩
    · rw [List.mem_append, List.mem_append, List.mem_singleton] at hx
      rcases hx with (hx | rfl) | hx
      · exact h1 x (List.mem_of_mem_take hx)
      · exact hn
      · exact h1 x (List.mem_of_mem_drop hx)
    · have hlen : (xs.take k ++ [n] ++ xs.drop k).length = xs.length + 1 := by simp; omega
      rw [hlen] at hi
      have hget : ∀ j, j < xs.length + 1 → (xs.take k ++ [n] ++ xs.drop k).getD j 0 = if j < k then xs.getD j 0 else if j = k then n else xs.getD (j - 1) 0 := by
        intro j hj
        have hkl : (xs.take k).length = k := by simp; omega
        by_cases c1 : j < k
        · rw [if_pos c1]
          simp only [List.getD, List.append_assoc]
          rw [List.getElem?_append_left (by omega), List.getElem?_take_of_lt c1]
        · rw [if_neg c1]
          by_cases c2 : j = k
          · rw [if_pos c2]
            simp only [List.getD, List.append_assoc]
            rw [List.getElem?_append_right (by omega), hkl, c2]; simp
          · rw [if_neg c2]
            simp only [List.getD]
            rw [List.getElem?_append_right (by simp; omega)]
            simp only [List.length_append, hkl, List.length_singleton, List.getElem?_drop]
            rw [show k + (j - (k + 1)) = j - 1 by omega]
      rw [hget i (by omega), hget (i + 1) (by omega)]
      by_cases c1 : i + 1 < k
      · rw [if_pos (by omega), if_pos c1]; exact h2 i (by omega)
      · by_cases c2 : i + 1 = k
        · rw [if_pos (by omega), if_neg c1, if_pos c2]; exact hbe i (by omega)
        · by_cases c3 : i = k
          · rw [if_neg (by omega), if_pos c3, if_neg c1, if_neg c2, c3, Nat.add_sub_cancel]
            have := hst (by omega); have := hne (by omega); omega
          · rw [if_neg (by omega), if_neg c3, if_neg c1, if_neg c2, Nat.add_sub_cancel]
            have := h2 (i - 1) (by omega)
            rwa [show i - 1 + 1 = i by omega] at this
theorem ins_len (xs : List Int) (n : Int) : (insP xs n).length ≤ xs.length + 1 := by
  unfold insP
  have := insK_le xs n
  split
  · simp; omega
  · omega
theorem joinB_self (l : Link) : joinB l.a l.b l = true := by simp [joinB]
theorem joinB_swap (l : Link) : joinB l.b l.a l = true := by simp [joinB]
end
section
theorem impGo_via {router from_ : Int} : ∀ {xs : List Imp} {r s : Rt}, impGo router from_ xs r = some s → s.via = r.via := by
  intro xs
  induction xs with
  | nil => intro r s h; simp [impGo] at h; rw [h]
  | cons x xs ih =>
    intro r s h
    simp only [impGo] at h
    split at h
    · exact ih h
    split at h
    · cases h
    split at h
    · have := ih h; exact this
    · have := ih h; exact this
end
section
theorem importO_via {n : Net} {a b : Int} {r s : Rt} (h : importO n a b r = some s) : s.via = b := impGo_via h
end
section
/-- The flags of a number, its highest bit first. -/
def dnP (L c : Nat) : List Bool := (List.range L).map fun i => decide (c / 2 ^ (L - 1 - i) % 2 = 1)
def downsAt (L m : Nat) : List (List Bool) := ((List.range (2 ^ L)).map (dnP L)).filter fun d => decide (d.count true = m)
def downsP (L k : Nat) : List (List Bool) := (List.range (k + 1)).flatMap (downsAt L)
def envsP : Nat → List (List Int)
  | 0 => [[]]
  | x + 1 => (envsP x).flatMap fun e => [e ++ [0], e ++ [1], e ++ [2]]
structure Vd where
  holds : Bool
  states : Int
  down : List Bool
  env : List Int
  vias : List Int
  port : Int
  deriving DecidableEq
def itemsP (n : Net) (ds : List (List Bool)) : List (List Bool × List Int × List Rt) := ds.flatMap fun d => (envsP n.externals.length).flatMap fun e => (statesP n e d).map fun rs => (d, e, rs)
/-- Over what is left, with so many states seen. -/
def verGo (fail : List Rt → Option Int) : List (List Bool × List Int × List Rt) → Int → Vd
  | [], c => ⟨true, c, [], [], [], 0⟩
  | (d, e, rs) :: l, c => match fail rs with
    | some port => ⟨false, c + 1, d, e, rs.map (·.via), port⟩
    | none => verGo fail l (c + 1)
def verP (n : Net) (fail : List Rt → Option Int) (k : Nat) : Vd := verGo fail (itemsP n (downsP n.links.length k)) 0
theorem dn_len (L c : Nat) : (dnP L c).length = L := by simp [dnP]
theorem downsAt_len {L m : Nat} {d : List Bool} (h : d ∈ downsAt L m) : d.length = L := by
  unfold downsAt at h
  obtain ⟨h1, _⟩ := List.mem_filter.1 h
  obtain ⟨c, _, rfl⟩ := List.mem_map.1 h1
  exact dn_len L c
theorem downs_len {L k : Nat} {d : List Bool} (h : d ∈ downsP L k) : d.length = L := by
  unfold downsP at h
  obtain ⟨m, _, h⟩ := List.mem_flatMap.1 h
  exact downsAt_len h
theorem envs_fine : ∀ {x : Nat} {e : List Int}, e ∈ envsP x → e.length = x ∧ (e.all fun v => inB v 0 2) = true := by
  intro x
  induction x with
  | zero => intro e h; simp [envsP] at h; subst h; exact ⟨rfl, rfl⟩
  | succ x ih =>
    intro e h
    simp only [envsP, List.mem_flatMap, List.mem_cons, List.not_mem_nil, or_false] at h
    obtain ⟨e0, h0, h⟩ := h
    obtain ⟨h1, h2⟩ := ih h0
    rcases h with rfl | rfl | rfl <;> exact ⟨by simp [h1], by rw [List.all_append, h2]; rfl⟩
end
end Go.Proofs.YtjibkkhgejcjeaaGreatDoor.Lg
