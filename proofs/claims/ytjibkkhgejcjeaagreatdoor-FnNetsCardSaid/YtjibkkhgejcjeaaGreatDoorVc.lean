/- A network's text, plain: its lines' words, and the networks that stand behind each line. -/
import Derived.Test.YtjibkkhgejcjeaaGreatDoorKn3
import Derived.Test.YtjibkkhgejcjeaaGreatDoorYa
import Derived.Test.YtjibkkhgejcjeaaGreatDoorHo
import Derived.Test.YtjibkkhgejcjeaaGreatDoorYc
set_option linter.unusedSimpArgs false
set_option linter.unusedVariables false
namespace Go.Proofs.YtjibkkhgejcjeaaGreatDoor.Lg
open Go Go.Lib
/-! Words, one behind the other, blanks between -/
def jnB : List Wrd → List UInt8
  | [] => []
  | [w] => w
  | w :: x :: r => w ++ 32 :: jnB (x :: r)
def solidW (w : Wrd) : Prop := w ≠ [] ∧ ∀ c ∈ w, c ≠ 32 ∧ c ≠ 10
theorem wordsT_one : ∀ {w : Wrd}, (∀ c ∈ w, c ≠ 32) → ∀ (r cur : List UInt8), wordsT (w ++ r) cur = wordsT r (cur ++ w) := by
  intro w
  induction w with
  | nil => intro _ r cur; simp
  | cons c w ih =>
    intro h r cur
    have hc : ¬ c = 32 := h c (by simp)
    rw [List.cons_append]
    simp only [wordsT]
    rw [if_neg hc, ih (fun d hd => h d (by simp [hd]))]
    simp
theorem wordsT_jn : ∀ {ws : List Wrd}, (∀ w ∈ ws, solidW w) → wordsT (jnB ws) [] = ws := by
  intro ws
  induction ws with
  | nil => intro _; simp [jnB, wordsT]
  | cons w r ih =>
    intro h
    obtain ⟨h0, h1⟩ := h w (by simp)
    cases r with
    | nil =>
      have := wordsT_one (w := w) (fun c hc => (h1 c hc).1) [] []
      rw [List.append_nil, List.nil_append] at this
      simp only [jnB]
      rw [this]
      simp [wordsT, h0]
    | cons x r =>
      have ih2 := ih fun y hy => h y (by simp [hy])
      simp only [jnB]
      rw [wordsT_one (fun c hc => (h1 c hc).1), List.nil_append]
      simp only [wordsT]
      rw [if_pos trivial, if_neg h0, ih2]; rfl
theorem jn_solid : ∀ {ws : List Wrd}, (∀ w ∈ ws, solidW w) → ∀ c ∈ jnB ws, c ≠ 10 := by
  intro ws
  induction ws with
  | nil => intro _ c hc; simp [jnB] at hc
  | cons w r ih =>
    intro h c hc
    obtain ⟨h0, h1⟩ := h w (by simp)
    cases r with
    | nil => simp only [jnB] at hc; exact (h1 c hc).2
    | cons x r =>
      simp only [jnB, List.mem_append, List.mem_cons] at hc
      rcases hc with hc | rfl | hc
      · exact (h1 c hc).2
      · decide
      · exact ih (fun y hy => h y (by simp [hy])) c hc
/-- What the reader makes of a line. -/
def netW (line : List UInt8) : List Wrd := match wordsT line [] with
  | [] => []
  | w :: r => if w.getD 0 0 = 35 then [] else w :: r
theorem netW_jn {w : Wrd} {r : List Wrd} (h : ∀ x ∈ w :: r, solidW x) (h35 : w.getD 0 0 ≠ 35) : netW (jnB (w :: r)) = w :: r := by
  unfold netW; rw [wordsT_jn h]; simp only; rw [if_neg h35]
theorem netW_nil : netW [] = [] := rfl
theorem netW_remark : netW [35, 32, 97, 32, 114, 101, 109, 97, 114, 107] = [] := by decide
/-! The words of a network's lines -/
def wRouter : Wrd := [114, 111, 117, 116, 101, 114]
def wLink : Wrd := [108, 105, 110, 107]
def wCost : Wrd := [99, 111, 115, 116]
def wOrigin : Wrd := [111, 114, 105, 103, 105, 110]
def wExternal : Wrd := [101, 120, 116, 101, 114, 110, 97, 108]
def wImport : Wrd := [105, 109, 112, 111, 114, 116]
def wFrom : Wrd := [102, 114, 111, 109]
def wFilter : Wrd := [102, 105, 108, 116, 101, 114]
def wTo : Wrd := [116, 111]
def wIf : Wrd := [105, 102]
def wMark : Wrd := [109, 97, 114, 107]
def wPlain : Wrd := [112, 108, 97, 105, 110]
def wDeny : Wrd := [100, 101, 110, 121]
def wPref : Wrd := [112, 114, 101, 102]
def wClear : Wrd := [99, 108, 101, 97, 114]
def nmN (n : Net) (x : Int) : Wrd := n.routers.getD x.toNat []
def routW (n : Net) (i : Nat) : List Wrd := [wRouter, n.routers.getD i []]
def linkW (n : Net) (l : Link) : List Wrd := [wLink, nmN n l.a, nmN n l.b, wCost, itoa l.cost]
def origW (n : Net) (x : Int) : List Wrd := [wOrigin, nmN n x]
def extW (n : Net) (x : Int) : List Wrd := [wExternal, nmN n x]
def whenW (x : Imp) : List Wrd := if x.when_ = 1 then [wIf, wMark] else if x.when_ = 2 then [wIf, wPlain] else []
def doW (x : Imp) : List Wrd := if x.do_ = 1 then [wDeny] else if x.do_ = 2 then [wPref, itoa x.n] else if x.do_ = 3 then [wMark] else [wClear]
def impW (n : Net) (x : Imp) : List Wrd := [wImport, nmN n x.at_, wFrom, nmN n x.from_] ++ (whenW x ++ doW x)
def filW (n : Net) (x : Fil) : List Wrd := [wFilter, nmN n x.at_, wTo, nmN n x.to, wPort, itoa x.low, itoa x.high]
def linesN (n : Net) : List (List Wrd) := (List.range n.routers.length).map (routW n) ++ (n.links.map (linkW n) ++ (n.origins.map (origW n) ++ (n.externals.map (extW n) ++ (n.imports.map (impW n) ++ n.filters.map (filW n)))))
def lnT (ws : List Wrd) : List UInt8 := jnB ws ++ [10]
def netT (n : Net) : List UInt8 := (linesN n).flatMap lnT
/-! What a line adds to a network -/
def emptyN : Net := ⟨[], [], [], [], [], []⟩
def ofN (m : Net) (w : Wrd) (x : Int) : Prop := nameB w = true ∧ placeP m.routers w = x ∧ 0 ≤ x ∧ w.length ≤ 40
inductive Adds : Net → List Wrd → Net → Prop
  | skip (m : Net) : Adds m [] m
  | router (m : Net) (w : Wrd) : nameB w = true → w.length ≤ 40 → m.routers.contains w = false → m.routers.length < 4 → Adds m [wRouter, w] { m with routers := m.routers ++ [w] }
  | link (m : Net) (wa wb : Wrd) (a b c : Int) : ofN m wa a → ofN m wb b → a ≠ b → linkP m.links a b < 0 → m.links.length < 6 → 1 ≤ c → c ≤ 100 → Adds m [wLink, wa, wb, wCost, itoa c] { m with links := m.links ++ [⟨a, b, c⟩] }
  | origin (m : Net) (w : Wrd) (x : Int) : ofN m w x → (∀ y ∈ m.origins, y < x) → m.origins.length < 4 → Adds m [wOrigin, w] { m with origins := m.origins ++ [x] }
  | external (m : Net) (w : Wrd) (x : Int) : ofN m w x → (∀ y ∈ m.externals, y < x) → m.externals.length < 2 → Adds m [wExternal, w] { m with externals := m.externals ++ [x] }
  | import_ (m : Net) (wa wb : Wrd) (x : Imp) : ofN m wa x.at_ → ofN m wb x.from_ → impB x = true → 0 ≤ linkP m.links x.at_ x.from_ → m.imports.length < 12 → Adds m ([wImport, wa, wFrom, wb] ++ (whenW x ++ doW x)) { m with imports := m.imports ++ [x] }
  | filter (m : Net) (wa wb : Wrd) (x : Fil) : ofN m wa x.at_ → ofN m wb x.to → 0 ≤ x.low → x.low ≤ x.high → x.high ≤ 15 → 0 ≤ linkP m.links x.at_ x.to → m.filters.length < 6 → Adds m [wFilter, wa, wTo, wb, wPort, itoa x.low, itoa x.high] { m with filters := m.filters ++ [x] }
inductive Chain : List (List Wrd) → Net → Net → Prop
  | nil (m : Net) : Chain [] m m
  | cons {ws : List Wrd} {r : List (List Wrd)} {m m' m2 : Net} : Adds m ws m' → Chain r m' m2 → Chain (ws :: r) m m2
theorem Chain.app {a b : List (List Wrd)} {m1 m2 m3 : Net} (h1 : Chain a m1 m2) (h2 : Chain b m2 m3) : Chain (a ++ b) m1 m3 := by
  induction h1 with
  | nil m => exact h2
  | cons h _ ih => exact .cons h (ih h2)
/-- What of a list is read, so far, read on. -/
theorem Chain.sect {α : Type} {xs : List α} {f : α → List Wrd} {S : List α → Net} (h : ∀ i (hi : i < xs.length), Adds (S (xs.take i)) (f xs[i]) (S (xs.take (i + 1)))) : ∀ i, i ≤ xs.length → Chain ((xs.take i).map f) (S []) (S (xs.take i)) := by
  intro i
  induction i with
  | zero => intro _; rw [List.take_zero]; exact .nil _
  | succ i ih =>
    intro hi
    have h1 := ih (by omega)
    have h2 := h i (by omega)
    have e : xs.take (i + 1) = xs.take i ++ [xs[i]] := by rw [List.take_add_one, List.getElem?_eq_getElem (by omega)]; rfl
    rw [e, List.map_append, ← e]
    exact h1.app (.cons h2 (.nil _))
theorem Chain.sectAll {α : Type} {xs : List α} {f : α → List Wrd} {S : List α → Net} (h : ∀ i (hi : i < xs.length), Adds (S (xs.take i)) (f xs[i]) (S (xs.take (i + 1)))) : Chain (xs.map f) (S []) (S xs) := by
  have := Chain.sect h xs.length (Nat.le_refl _)
  rwa [List.take_length] at this
theorem firstP_place {ss : List Wrd} {i : Nat} (hi : i < ss.length) (hno : ∀ j, j < i → ss.getD j [] ≠ ss.getD i []) : placeP ss (ss.getD i []) = i := place_some hi hno rfl
theorem take_snoc {α : Type} (d : α) {xs : List α} {i : Nat} (h : i < xs.length) : xs.take (i + 1) = xs.take i ++ [xs[i]] := by rw [List.take_add_one, List.getElem?_eq_getElem h]; rfl
theorem link_mem {ls : List Link} {a b : Int} (h : 0 ≤ linkP ls a b) : ∃ l ∈ ls, joinB a b l = true := by
  have := any_find ls (joinB a b)
  have e : decide (linkP ls a b ≥ 0) = ls.any (joinB a b) := this
  rw [decide_eq_true h] at e
  exact List.any_eq_true.1 e.symm
theorem link_none {ls : List Link} {a b : Int} (h : ls.any (joinB a b) = false) : linkP ls a b < 0 := by
  have e : decide (linkP ls a b ≥ 0) = ls.any (joinB a b) := any_find ls (joinB a b)
  rw [h] at e
  have := of_decide_eq_false e
  omega
theorem rise_all {r : Int} {xs : List Int} (h : risingB r xs = true) : ∀ i, i < xs.length → (i : Int) ≤ xs.getD i 0 ∧ xs.getD i 0 < r ∧ ∀ j, j < i → xs.getD j 0 < xs.getD i 0 := by
  have hs : ∀ i, i < xs.length → (0 ≤ xs.getD i 0 ∧ xs.getD i 0 ≤ r - 1) ∧ (i = 0 ∨ xs.getD (i - 1) 0 < xs.getD i 0) := fun i hi => by
    have := List.all_eq_true.1 h i (List.mem_range.2 hi)
    simp only [riseB, routerB, Bool.and_eq_true, Bool.or_eq_true, decide_eq_true_eq] at this
    exact this
  intro i
  induction i with
  | zero => intro hi; obtain ⟨⟨a, b⟩, _⟩ := hs 0 hi; exact ⟨by omega, by omega, fun j hj => by omega⟩
  | succ i ih =>
    intro hi
    obtain ⟨i1, i2, i3⟩ := ih (by omega)
    obtain ⟨⟨a, b⟩, c⟩ := hs (i + 1) hi
    have c : xs.getD i 0 < xs.getD (i + 1) 0 := c.resolve_left (by omega)
    refine ⟨by omega, by omega, fun j hj => ?_⟩
    by_cases e : j = i
    · subst e; exact c
    · have := i3 j (by omega); omega
theorem rise_of {r : Int} {xs : List Int} (h : risingB r xs = true) {i : Nat} (hi : i < xs.length) : 0 ≤ xs[i] ∧ xs[i] < r ∧ (i : Int) < r ∧ ∀ y ∈ xs.take i, y < xs[i] := by
  obtain ⟨a, b, c⟩ := rise_all h i hi
  have eg : xs.getD i 0 = xs[i] := by simp [List.getD, hi]
  rw [eg] at a b c
  refine ⟨by omega, b, by omega, fun y hy => ?_⟩
  rw [List.mem_take_iff_getElem] at hy
  obtain ⟨j, hj, rfl⟩ := hy
  have := c j (by omega)
  simpa [List.getD, (by omega : j < xs.length)] using this
/-- A right network's lines read it. -/
theorem net_chain {n : Net} (hB : netB n = true) : Chain (linesN n) emptyN n := by
  have hR := netR_of hB
  simp only [netB, Bool.and_eq_true, decide_eq_true_eq, List.all_eq_true] at hB
  obtain ⟨⟨⟨⟨⟨⟨⟨⟨⟨⟨⟨h1, h2⟩, h3⟩, h4⟩, h5⟩, h6⟩, h7⟩, h8⟩, h9⟩, h10⟩, h11⟩, h12⟩ := hB
  have nm : ∀ i, i < n.routers.length → nameB (n.routers.getD i []) = true ∧ (n.routers.getD i []).length ≤ 40 ∧ (n.routers.take i).contains (n.routers.getD i []) = false := fun i hi => by
    have := h6 i (List.mem_range.2 hi)
    simp only [nameAt, Bool.and_eq_true, Bool.not_eq_true'] at this
    refine ⟨this.1, ?_, this.2⟩
    have h := this.1
    simp only [nameB, Bool.and_eq_true, decide_eq_true_eq] at h
    exact h.1.2
  have pl : ∀ x : Int, 0 ≤ x → x < n.routers.length → placeP n.routers (nmN n x) = x := fun x hx0 hx1 => by
    have hi : x.toNat < n.routers.length := by omega
    have := firstP_place hi fun j hj e => by
      have hc := (nm _ hi).2.2
      have hm : n.routers.getD x.toNat [] ∈ n.routers.take x.toNat := by
        rw [← e, List.mem_take_iff_getElem]
        exact ⟨j, by omega, by simp [List.getD, (by omega : j < n.routers.length)]⟩
      rw [List.contains_iff_mem.2 hm] at hc; cases hc
    unfold nmN; rw [this]; omega
  have of : ∀ {m : Net}, m.routers = n.routers → ∀ x : Int, 0 ≤ x → x < n.routers.length → ofN m (nmN n x) x := fun {m} hm x hx0 hx1 => by
    obtain ⟨q1, q2, _⟩ := nm x.toNat (by omega)
    exact ⟨q1, by rw [hm]; exact pl x hx0 hx1, hx0, q2⟩
  have ends : ∀ {a b : Int}, 0 ≤ linkP n.links a b → (0 ≤ a ∧ a < n.routers.length) ∧ (0 ≤ b ∧ b < n.routers.length) := fun {a b} h => by
    obtain ⟨l, hl, hj⟩ := link_mem h
    have he := hR.ends l hl
    simp only [joinB, Bool.or_eq_true, Bool.and_eq_true, decide_eq_true_eq] at hj
    omega
  unfold linesN
  have e1 : (List.range n.routers.length).map (routW n) = n.routers.map fun w => [wRouter, w] := by
    apply List.ext_getElem
    · simp
    · intro i q1 q2
      simp only [List.length_map, List.length_range] at q1 q2
      simp [routW, List.getD, q2]
  rw [e1]
  have c1 := Chain.sectAll (xs := n.routers) (f := fun w => [wRouter, w]) (S := fun xs => ⟨xs, [], [], [], [], []⟩) fun i hi => by
    obtain ⟨q1, q2, q3⟩ := nm i hi
    have eg : n.routers.getD i [] = n.routers[i] := by simp [List.getD, hi]
    rw [eg] at q1 q2 q3
    rw [take_snoc [] hi]
    exact .router ⟨n.routers.take i, [], [], [], [], []⟩ n.routers[i] q1 q2 q3 (by simp only [List.length_take]; omega)
  have c2 := Chain.sectAll (xs := n.links) (f := linkW n) (S := fun xs => ⟨n.routers, xs, [], [], [], []⟩) fun i hi => by
    have h := h7 i (List.mem_range.2 hi)
    have eg : n.links.getD i default = n.links[i] := by simp [List.getD, hi]
    simp only [linkAt, eg, routerB, inB, Bool.and_eq_true, decide_eq_true_eq, Bool.not_eq_true', decide_eq_false_iff_not] at h
    obtain ⟨⟨⟨⟨ha, hb⟩, hne⟩, hc⟩, hj⟩ := h
    rw [take_snoc default hi]
    exact .link ⟨n.routers, n.links.take i, [], [], [], []⟩ _ _ n.links[i].a n.links[i].b n.links[i].cost (of rfl _ ha.1 (by omega)) (of rfl _ hb.1 (by omega)) hne (link_none hj) (by simp only [List.length_take]; omega) hc.1 hc.2
  have ro := fun i hi => rise_of h10 (i := i) hi
  have rx := fun i hi => rise_of h11 (i := i) hi
  have c3 := Chain.sectAll (xs := n.origins) (f := origW n) (S := fun xs => ⟨n.routers, n.links, xs, [], [], []⟩) fun i hi => by
    obtain ⟨q1, q2, q3, q4⟩ := ro i hi
    rw [take_snoc 0 hi]
    exact .origin ⟨n.routers, n.links, n.origins.take i, [], [], []⟩ _ n.origins[i] (of rfl _ q1 q2) q4 (by simp only [List.length_take]; omega)
  have c4 := Chain.sectAll (xs := n.externals) (f := extW n) (S := fun xs => ⟨n.routers, n.links, n.origins, xs, [], []⟩) fun i hi => by
    obtain ⟨q1, q2, q3, q4⟩ := rx i hi
    rw [take_snoc 0 hi]
    exact .external ⟨n.routers, n.links, n.origins, n.externals.take i, [], []⟩ _ n.externals[i] (of rfl _ q1 q2) q4 (by simp only [List.length_take]; omega)
  have c5 := Chain.sectAll (xs := n.imports) (f := impW n) (S := fun xs => ⟨n.routers, n.links, n.origins, n.externals, xs, []⟩) fun i hi => by
    have h := h8 n.imports[i] (List.getElem_mem hi)
    simp only [impOn, Bool.and_eq_true, decide_eq_true_eq] at h
    obtain ⟨⟨a0, a1⟩, b0, b1⟩ := ends h.1
    rw [take_snoc default hi]
    exact .import_ ⟨n.routers, n.links, n.origins, n.externals, n.imports.take i, []⟩ _ _ n.imports[i] (of rfl _ a0 a1) (of rfl _ b0 b1) h.2 h.1 (by simp only [List.length_take]; omega)
  have c6 := Chain.sectAll (xs := n.filters) (f := filW n) (S := fun xs => ⟨n.routers, n.links, n.origins, n.externals, n.imports, xs⟩) fun i hi => by
    have h := h9 n.filters[i] (List.getElem_mem hi)
    simp only [filOn, inB, Bool.and_eq_true, decide_eq_true_eq] at h
    obtain ⟨⟨hl, hlo⟩, hhi⟩ := h
    obtain ⟨⟨a0, a1⟩, b0, b1⟩ := ends hl
    rw [take_snoc default hi]
    exact .filter ⟨n.routers, n.links, n.origins, n.externals, n.imports, n.filters.take i⟩ _ _ n.filters[i] (of rfl _ a0 a1) (of rfl _ b0 b1) hlo.1 hlo.2 hhi hl (by simp only [List.length_take]; omega)
  exact c1.app (c2.app (c3.app (c4.app (c5.app c6))))
theorem name_solid {w : Wrd} (h : nameB w = true) : solidW w := by
  simp only [nameB, Bool.and_eq_true, decide_eq_true_eq, List.all_eq_true] at h
  obtain ⟨⟨h1, h2⟩, h3⟩ := h
  refine ⟨fun e => by rw [e] at h1; simp at h1, fun c hc => ?_⟩
  obtain ⟨i, hi, rfl⟩ := List.getElem_of_mem hc
  have := h3 i (List.mem_range.2 hi)
  have eg : w.getD i 0 = w[i] := by simp [List.getD, hi]
  rw [eg] at this
  simp only [charB, letterB, digitB, Bool.or_eq_true, Bool.and_eq_true, decide_eq_true_eq] at this
  constructor <;> intro e <;> rw [e] at this <;> simp at this
theorem itoa_solidW (x : Int) : solidW (itoa x) := ⟨itoa_ne x, fun c hc => ⟨(itoa_solid x c hc).2.2, (itoa_solid x c hc).2.1⟩⟩
theorem lit_solid {w : Wrd} (h : (w ≠ [] && w.all fun c => c != 32 && c != 10) = true) : solidW w := by
  simp only [Bool.and_eq_true, decide_eq_true_eq, List.all_eq_true, bne_iff_ne, ne_eq] at h
  exact h
theorem solid_cons {w : Wrd} {r : List Wrd} (h : solidW w) (hr : ∀ x ∈ r, solidW x) : ∀ x ∈ w :: r, solidW x := fun x hx => (List.mem_cons.1 hx).elim (fun e => e ▸ h) (hr x)
theorem solid_nil : ∀ x ∈ ([] : List Wrd), solidW x := fun x hx => by cases hx
theorem jn_len : ∀ ws : List Wrd, (jnB ws).length ≤ (ws.map fun w => w.length + 1).sum := by
  intro ws
  induction ws with
  | nil => simp [jnB]
  | cons w r ih =>
    cases r with
    | nil => simp [jnB]
    | cons x r => simp only [jnB, List.map_cons, List.sum_cons, List.length_append, List.length_cons] at ih ⊢; omega
/-- What a line that is added looks like. -/
theorem adds_line {m m' : Net} {ws : List Wrd} (h : Adds m ws m') : (∀ w ∈ ws, solidW w) ∧ (∀ w r, ws = w :: r → w.getD 0 0 ≠ 35) ∧ (jnB ws).length ≤ 160 := by
  have L := jn_len ws
  cases h with
  | skip => exact ⟨solid_nil, fun w r e => (by cases e), by simp [jnB]⟩
  | router w h1 h2 => exact ⟨solid_cons (lit_solid (by decide)) (solid_cons (name_solid h1) solid_nil), fun w' r e => (by injection e with e1 e2; subst e1; decide), by simp [wRouter] at L ⊢; omega⟩
  | link wa wb a b c h1 h2 h3 h4 h5 h6 h7 =>
    have := itoa_len (n := c) (by omega) (by omega)
    have := h1.2.2.2
    have := h2.2.2.2
    exact ⟨solid_cons (lit_solid (by decide)) (solid_cons (name_solid h1.1) (solid_cons (name_solid h2.1) (solid_cons (lit_solid (by decide)) (solid_cons (itoa_solidW _) solid_nil)))), fun w' r e => (by injection e with e1 e2; subst e1; decide), by simp [wLink, wCost] at L ⊢; omega⟩
  | origin w x h1 =>
    have := h1.2.2.2
    exact ⟨solid_cons (lit_solid (by decide)) (solid_cons (name_solid h1.1) solid_nil), fun w' r e => (by injection e with e1 e2; subst e1; decide), by simp [wOrigin] at L ⊢; omega⟩
  | external w x h1 =>
    have := h1.2.2.2
    exact ⟨solid_cons (lit_solid (by decide)) (solid_cons (name_solid h1.1) solid_nil), fun w' r e => (by injection e with e1 e2; subst e1; decide), by simp [wExternal] at L ⊢; omega⟩
  | import_ wa wb x h1 h2 h3 =>
    have := h1.2.2.2
    have := h2.2.2.2
    simp only [impB, inB, Bool.and_eq_true, decide_eq_true_eq] at h3
    have hn : 0 ≤ x.n ∧ x.n ≤ 1000 := by have := h3.2; split at this <;> omega
    have hi := itoa_len (n := x.n) (by omega) (by omega)
    have w1 : (∀ w ∈ whenW x, solidW w) ∧ ((whenW x).map fun w => w.length + 1).sum ≤ 9 := by
      unfold whenW
      split
      · exact ⟨solid_cons (lit_solid (by decide)) (solid_cons (lit_solid (by decide)) solid_nil), by decide⟩
      split
      · exact ⟨solid_cons (lit_solid (by decide)) (solid_cons (lit_solid (by decide)) solid_nil), by decide⟩
      · exact ⟨solid_nil, by decide⟩
    have w2 : (∀ w ∈ doW x, solidW w) ∧ ((doW x).map fun w => w.length + 1).sum ≤ 14 := by
      unfold doW
      split
      · exact ⟨solid_cons (lit_solid (by decide)) solid_nil, by decide⟩
      split
      · exact ⟨solid_cons (lit_solid (by decide)) (solid_cons (itoa_solidW _) solid_nil), by simp [wPref]; omega⟩
      split
      · exact ⟨solid_cons (lit_solid (by decide)) solid_nil, by decide⟩
      · exact ⟨solid_cons (lit_solid (by decide)) solid_nil, by decide⟩
    have hs : ∀ w ∈ wImport :: wa :: wFrom :: wb :: (whenW x ++ doW x), solidW w := solid_cons (lit_solid (by decide)) (solid_cons (name_solid h1.1) (solid_cons (lit_solid (by decide)) (solid_cons (name_solid h2.1) fun w hw => (List.mem_append.1 hw).elim (w1.1 w) (w2.1 w))))
    refine ⟨hs, fun w' r e => (by injection e with e1 e2; subst e1; decide), ?_⟩
    have w12 := w1.2
    have w22 := w2.2
    simp only [List.cons_append, List.nil_append, List.map_cons, List.map_append, List.sum_cons, List.sum_append_nat] at L
    have e1 : wImport.length = 6 := rfl
    have e2 : wFrom.length = 4 := rfl
    show (jnB (wImport :: wa :: wFrom :: wb :: (whenW x ++ doW x))).length ≤ 160
    omega
  | filter wa wb x h1 h2 h3 h4 h5 =>
    have := h1.2.2.2
    have := h2.2.2.2
    have := itoa_len (n := x.low) (by omega) (by omega)
    have := itoa_len (n := x.high) (by omega) (by omega)
    exact ⟨solid_cons (lit_solid (by decide)) (solid_cons (name_solid h1.1) (solid_cons (lit_solid (by decide)) (solid_cons (name_solid h2.1) (solid_cons (lit_solid (by decide)) (solid_cons (itoa_solidW _) (solid_cons (itoa_solidW _) solid_nil)))))), fun w' r e => (by injection e with e1 e2; subst e1; decide), by simp [wFilter, wTo, wPort] at L ⊢; omega⟩
theorem adds_netW {m m' : Net} {ws : List Wrd} (h : Adds m ws m') : netW (jnB ws) = ws := by
  obtain ⟨h1, h2, _⟩ := adds_line h
  cases ws with
  | nil => rfl
  | cons w r => exact netW_jn h1 (h2 w r rfl)
theorem chain_mem {ls : List (List Wrd)} {m m' : Net} (h : Chain ls m m') : ∀ ws ∈ ls, ∃ a b, Adds a ws b := by
  induction h with
  | nil => intro ws h; cases h
  | cons h _ ih => intro ws hw; rcases List.mem_cons.1 hw with rfl | hw; exact ⟨_, _, h⟩; exact ih ws hw
/-- The lines of the text. -/
theorem cut_netT {ls : List (List Wrd)} (h : ∀ ws ∈ ls, ∃ a b, Adds a ws b) : cutP 10 (ls.flatMap lnT) = ls.map jnB ++ [[]] := by
  induction ls with
  | nil => rfl
  | cons ws r ih =>
    obtain ⟨a, b, ha⟩ := h ws (by simp)
    rw [List.flatMap_cons, lnT, List.append_assoc, List.singleton_append, cutP_app (jn_solid (adds_line ha).1), ih fun x hx => h x (by simp [hx])]; rfl
theorem lines_len {ls : List (List Wrd)} (h : ∀ ws ∈ ls, ∃ a b, Adds a ws b) : (ls.flatMap lnT).length ≤ 161 * ls.length := by
  induction ls with
  | nil => simp
  | cons ws r ih =>
    obtain ⟨a, b, ha⟩ := h ws (by simp)
    have := (adds_line ha).2.2
    have := ih fun x hx => h x (by simp [hx])
    rw [List.flatMap_cons, List.length_append, List.length_cons, lnT, List.length_append, List.length_singleton]; omega
end Go.Proofs.YtjibkkhgejcjeaaGreatDoor.Lg
/- A network in the making: its box and its lists, each in a block of its own. -/
set_option linter.unusedSimpArgs false
set_option linter.unusedVariables false
namespace Go.Proofs.YtjibkkhgejcjeaaGreatDoor.Lg
open Go Go.Lib
attribute [local irreducible] SRun DS DRun
variable {Γ : St} {σ σ0 : St}
/-- What the lists hold, each with the size of an element. -/
def lsN (m : Net) : List (Nat × List V) := [(1, strsV m.routers), (3, linksV m.links), (1, ints m.origins), (1, ints m.externals), (5, impsV m.imports), (4, filsV m.filters)]
/-- A network in the making, in the box b. -/
structure RdL (σ0 : St) (b : Nat) (L : List (Nat × List V)) (qs : List V) (s : St) : Prop where
  box_ : s b = some qs
  len : qs.length = L.length
  at_ : ∀ i, i < L.length → At s (L.getD i (0, [])).1 (L.getD i (0, [])).2 (qs.getD i .undef)
  apart : ∀ i j, i < L.length → j < L.length → i ≠ j → ∀ d, blk (qs.getD i .undef) = some d → blk (qs.getD j .undef) ≠ some d
  nb : ∀ i, i < L.length → blk (qs.getD i .undef) ≠ some b
  new : ∀ i, i < L.length → ∀ d, blk (qs.getD i .undef) = some d → σ0 d = none
  bnew : σ0 b = none
  le : ∀ d c, σ0 d = some c → s d = some c
theorem getD_set_same {α : Type} {l : List α} {i : Nat} {x d : α} (h : i < l.length) : (l.set i x).getD i d = x := by simp [List.getD, h]
theorem getD_set_ne {α : Type} {l : List α} {i j : Nat} {x d : α} (h : i ≠ j) : (l.set i x).getD j d = l.getD j d := by simp [List.getD, List.getElem?_set_ne h]
/-- One list grows, and the box is told. -/
theorem RdL.put {b : Nat} {L : List (Nat × List V)} {qs : List V} {s s' : St} (h : RdL σ0 b L qs s) {i : Nat} (hi : i < L.length) {es : Nat} {xs : List V} {q' : V} (he : es = (L.getD i (0, [])).1) (ha : AppAt s es xs (qs.getD i .undef) q' s') :
    s' b = some qs ∧ RdL σ0 b (L.set i (es, xs)) (qs.set i q') (upd s' b (qs.set i q')) := by
  have hb0 : s b ≠ none := by rw [h.box_]; simp
  have hq' : blk q' ≠ some b := fun e => by
    rcases ha.blk_ b e with h1 | h1
    · exact h.nb i hi h1
    · exact hb0 h1
  have hsb : s' b = some qs := by rw [ha.keep b (h.nb i hi) hq']; exact h.box_
  have hiq : i < qs.length := by rw [h.len]; exact hi
  have keep : ∀ j, j < L.length → i ≠ j → ∀ d, blk (qs.getD j .undef) = some d → blk q' ≠ some d ∧ s' d = s d := fun j hj hij d hd => by
    have hs : s d ≠ none := by rw [(h.at_ j hj).has hd]; simp
    have h1 : blk (qs.getD i .undef) ≠ some d := fun e => h.apart i j hi hj hij d e hd
    have h2 : blk q' ≠ some d := fun e => by
      rcases ha.blk_ d e with h3 | h3
      · exact h1 h3
      · exact hs h3
    exact ⟨h2, ha.keep d h1 h2⟩
  refine ⟨hsb, ⟨upd_same _ _ _, by rw [List.length_set, List.length_set]; exact h.len, fun j hj => ?_, fun j k hj hk hjk d hd => ?_, fun j hj => ?_, fun j hj d hd => ?_, h.bnew, fun d c hc => ?_⟩⟩
  · rw [List.length_set] at hj
    by_cases e : i = j
    · subst e
      rw [getD_set_same hi, getD_set_same hiq]
      exact ha.at_.upd hq'
    · rw [getD_set_ne e, getD_set_ne e]
      refine (h.at_ j hj).to fun d hd => ?_
      rw [upd_ne _ _ (fun e2 => h.nb j hj (by rw [hd, e2])), (keep j hj e d hd).2]
  · rw [List.length_set] at hj hk
    by_cases e : i = j
    · subst e
      rw [getD_set_same hiq] at hd
      rw [getD_set_ne hjk]
      exact fun e2 => (keep k hk hjk d e2).1 hd
    · rw [getD_set_ne e] at hd
      by_cases e2 : i = k
      · subst e2
        rw [getD_set_same hiq]
        exact (keep j hj e d hd).1
      · rw [getD_set_ne e2]; exact h.apart j k hj hk hjk d hd
  · rw [List.length_set] at hj
    by_cases e : i = j
    · subst e; rw [getD_set_same hiq]; exact hq'
    · rw [getD_set_ne e]; exact h.nb j hj
  · rw [List.length_set] at hj
    by_cases e : i = j
    · subst e
      rw [getD_set_same hiq] at hd
      rcases ha.blk_ d hd with h1 | h1
      · exact h.new i hi d h1
      · exact none_of h.le d h1
    · rw [getD_set_ne e] at hd; exact h.new j hj d hd
  · have e1 : d ≠ b := fun e => by subst e; rw [h.bnew] at hc; cases hc
    have e2 : blk (qs.getD i .undef) ≠ some d := fun e => by rw [h.new i hi d e] at hc; cases hc
    have e3 : blk q' ≠ some d := fun e => by
      rcases ha.blk_ d e with h1 | h1
      · exact e2 h1
      · rw [h.le d c hc] at h1; cases h1
    rw [upd_ne _ _ e1, ha.keep d e2 e3]; exact h.le d c hc
/-- New boxes beside it. -/
theorem RdL.mono {b : Nat} {L : List (Nat × List V)} {qs : List V} {s s' : St} (h : RdL σ0 b L qs s) (hs : ∀ d c, s d = some c → s' d = some c) : RdL σ0 b L qs s' :=
  ⟨hs _ _ h.box_, h.len, fun i hi => (h.at_ i hi).mono hs, h.apart, h.nb, h.new, h.bnew, fun d c hc => hs _ _ (h.le d c hc)⟩
abbrev RdN (σ0 : St) (b : Nat) (m : Net) (s : St) : Prop := ∃ qs, RdL σ0 b (lsN m) qs s
/-- The six places. -/
theorem RdL.six {b : Nat} {m : Net} {qs : List V} {s : St} (h : RdL σ0 b (lsN m) qs s) : ∃ q0 q1 q2 q3 q4 q5, qs = [q0, q1, q2, q3, q4, q5] ∧ At s 1 (strsV m.routers) q0 ∧ At s 3 (linksV m.links) q1 ∧ At s 1 (ints m.origins) q2 ∧ At s 1 (ints m.externals) q3 ∧ At s 5 (impsV m.imports) q4 ∧ At s 4 (filsV m.filters) q5 := by
  have hl := h.len
  match qs, hl with
  | [q0, q1, q2, q3, q4, q5], _ => exact ⟨q0, q1, q2, q3, q4, q5, rfl, h.at_ 0 (by simp [lsN]), h.at_ 1 (by simp [lsN]), h.at_ 2 (by simp [lsN]), h.at_ 3 (by simp [lsN]), h.at_ 4 (by simp [lsN]), h.at_ 5 (by simp [lsN])⟩
theorem RdL.ones {b : Nat} {m : Net} {qs : List V} {s : St} (h : RdL σ0 b (lsN m) qs s) : ∀ c ∈ qs, c.one = true := by
  obtain ⟨q0, q1, q2, q3, q4, q5, rfl, a0, a1, a2, a3, a4, a5⟩ := h.six
  intro c hc
  simp only [List.mem_cons, List.not_mem_nil, or_false] at hc
  rcases hc with rfl | rfl | rfl | rfl | rfl | rfl
  · exact a0.one
  · exact a1.one
  · exact a2.one
  · exact a3.one
  · exact a4.one
  · exact a5.one
theorem RdL.lend {b : Nat} {m : Net} {qs : List V} {s : St} (h : RdL σ0 b (lsN m) qs s) : Frz s emp (.agg qs) (netV m) := by
  obtain ⟨q0, q1, q2, q3, q4, q5, rfl, a0, a1, a2, a3, a4, a5⟩ := h.six
  exact frz_agg (by exact ⟨a0.lend, a1.lend, a2.lend, a3.lend, a4.lend, a5.lend, trivial⟩) (net_one m)
/-- What is read is handed out. -/
theorem RdL.conv {b : Nat} {m : Net} {qs : List V} {s : St} (h : RdL σ0 b (lsN m) qs s) : Frz s σ0 (.agg qs) (netV m) := by
  have hn := h.new
  obtain ⟨q0, q1, q2, q3, q4, q5, rfl, a0, a1, a2, a3, a4, a5⟩ := h.six
  exact frz_agg (by exact ⟨a0.frz (hn 0 (by simp [lsN])), a1.frz (hn 1 (by simp [lsN])), a2.frz (hn 2 (by simp [lsN])), a3.frz (hn 3 (by simp [lsN])), a4.frz (hn 4 (by simp [lsN])), a5.frz (hn 5 (by simp [lsN])), trivial⟩) (net_one m)
section
variable {P : Program} {f : FuncId} {n : Nat} {Q : V → St → Prop} {k : List It} {T : Ts}
theorem DRun.mix {b : Nat} {c : List V} {t : DT} {segs : List DT} (hb : σ b = some c) (hr : rdOK t = true) (h : DSW P Γ (del σ b) t T (upd emp b c) fun T s => WD P Γ f n Q k segs T (cup s (del σ b))) : DRun P Γ f n Q (t :: segs) k T σ := by
  with_unfolding_all exact ⟨upd emp b c, del σ b, disj_one σ b c, by rw [cup_one, upd_self σ hb], DS.mono (fun T s hw => hw.sound) (DS.of hr h)⟩
/-- A part that reads much and appends to one list. -/
theorem DRun.mixAt {t : DT} {segs : List DT} {es : Nat} {xs : List V} {q : V} (h : At σ es xs q) (hr : rdOK t = true)
    (h1 : ∀ sr sw, (∀ d, blk q ≠ some d → sr d = σ d) → At sw es xs q → (∀ ys q' s', AppAt sw es ys q q' s' → disj s' sr → AppAt σ es ys q q' (cup s' sr)) → DSW P Γ sr t T sw fun T s => WD P Γ f n Q k segs T (cup s sr)) : DRun P Γ f n Q (t :: segs) k T σ := by
  rcases h.2 with ⟨hx, es', hq⟩ | ⟨b, cap, hq, hb⟩
  · have hbq : ∀ d, blk q ≠ some d := fun d e => by rw [hq] at e; cases e
    refine DRun.mixN hr (h1 σ emp (fun _ _ => rfl) ⟨h.1, .inl ⟨hx, es', hq⟩⟩ fun ys q' s' hA hd => ?_)
    have hc : ∀ d c, s' d = some c → cup s' σ d = some c := fun d c hs => by unfold cup; rw [hs]
    refine ⟨hA.at_.mono hc, fun d hb => ?_, fun d h2 h3 => ?_⟩
    · refine .inr ?_
      rcases hd d with h4 | h4
      · have := hA.at_.has hb; rw [h4] at this; cases this
      · exact h4
    · have := hA.keep d h2 h3
      unfold cup; rw [this]; rfl
  · have hbq : blk q = some b := by rw [hq]; rfl
    refine DRun.mix hb hr (h1 (del σ b) (upd emp b (flat xs)) (fun d hd => del_ne _ (fun e => hd (by rw [hbq, e]))) ⟨h.1, .inr ⟨b, cap, hq, upd_same _ _ _⟩⟩ fun ys q' s' hA hd => ?_)
    have hc : ∀ d c, s' d = some c → cup s' (del σ b) d = some c := fun d c hs => by unfold cup; rw [hs]
    refine ⟨hA.at_.mono hc, fun d hb2 => ?_, fun d h2 h3 => ?_⟩
    · by_cases e : d = b
      · subst e; exact .inl hbq
      · refine .inr ?_
        rcases hd d with h4 | h4
        · have := hA.at_.has hb2; rw [h4] at this; cases this
        · rwa [del_ne _ e] at h4
    · have e : d ≠ b := fun e => h2 (by rw [hbq, e])
      have := hA.keep d h2 h3
      unfold cup; rw [this, upd_ne _ _ e, del_ne _ e]; rfl
end
end Go.Proofs.YtjibkkhgejcjeaaGreatDoor.Lg
/- A network's lines read: its routers' numbers, and what each line adds. -/
set_option linter.unusedSimpArgs false
set_option linter.unusedVariables false
namespace Go.Proofs.YtjibkkhgejcjeaaGreatDoor.Lg
open Go Go.Lib
attribute [local irreducible] SRun DS DRun
variable {Γ : St} {σ σ0 : St}
theorem strs_okN (a : List (List UInt8)) : ∀ y ∈ strsV a, y.cells.length = 1 ∧ ∀ c ∈ y.cells, c.one = true := by
  intro y hy
  obtain ⟨x, _, rfl⟩ := List.mem_map.1 hy
  exact ⟨rfl, by simp [V.cells, V.one]⟩
theorem one_only {q : V} (h : q.one = true) : (∀ c, c ∈ [q] → c.one = true) = True := eq_true fun c hc => by rw [List.mem_singleton.1 hc]; exact h
theorem linksV_app (a : List Link) (l : Link) : linksV a ++ [.agg (linkC l)] = linksV (a ++ [l]) := by simp [linksV]
theorem impsV_app (a : List Imp) (l : Imp) : impsV a ++ [.agg (impC l)] = impsV (a ++ [l]) := by simp [impsV]
theorem filsV_app (a : List Fil) (l : Fil) : filsV a ++ [.agg (filC l)] = filsV (a ++ [l]) := by simp [filsV]
theorem nrouter_ok {b : Nat} {m : Net} {qs : List V} {w : Wrd} {x : Int} (h : RdL σ0 b (lsN m) qs σ) (hw : ofN m w x) (hl : m.routers.length ≤ 100) : Ret Tryz.prog Γ 132 [.ptr b 0, .str w] σ (.tup [.int .i64 x, .int .i64 0]) σ := by
  obtain ⟨w1, w2, w3, w4⟩ := hw
  have hb := h.box_
  obtain ⟨q0, q1, q2, q3, q4, q5, rfl, a0, a1, a2, a3, a4, a5⟩ := h.six
  have d0 : decide (x < 0) = false := decide_eq_false (by omega)
  have hN := fun σ => NameOK_ok (Γ := Γ) (σ := σ) (s := w) (by omega)
  rw [w1] at hN
  have hI := fun σ => indexStr_ok (Γ := Γ) (σ := σ) (ex := false) (ss := m.routers) (w := w) (by omega)
  rw [w2] at hI
  refine ret_of c132_ok rfl ?_
  simp (disch := omega) only [c132, go_sem]
  refine SRun.callR (hN _) ⟨[], rfl, rfl⟩ rfl ?_
  simp (disch := omega) only [hb, go_sem]
  refine SRun.callR (Ret.lendL (hI emp) (by exact ⟨a0.lend, .refl _, trivial⟩) (Plain.int _ _)) ⟨[], rfl, rfl⟩ rfl ?_
  simp (disch := omega) only [d0, go_sem]
  exact W_retR c132_ok rfl ⟨rfl, rfl⟩
theorem ntwo_ok {b : Nat} {m : Net} {qs : List V} {wa wb : Wrd} {x y : Int} (h : RdL σ0 b (lsN m) qs σ) (hx : ofN m wa x) (hy : ofN m wb y) (hl : m.routers.length ≤ 100) : Ret Tryz.prog Γ 131 [.ptr b 0, .str wa, .str wb] σ (.tup [.int .i64 x, .int .i64 y, .int .i64 0]) σ := by
  refine ret_of c131_ok rfl ?_
  simp (disch := omega) only [c131, go_sem]
  refine SRun.callR (nrouter_ok h hx hl) ⟨[], rfl, rfl⟩ rfl ?_
  simp (disch := omega) only [go_sem]
  refine SRun.callR (nrouter_ok h hy hl) ⟨[], rfl, rfl⟩ rfl ?_
  simp (disch := omega) only [go_sem]
  exact W_retR c131_ok rfl ⟨rfl, rfl⟩
theorem naddRouter_ok {b : Nat} {m : Net} {qs : List V} {w : Wrd} (h : RdL σ0 b (lsN m) qs σ) (h1 : nameB w = true) (h2 : w.length ≤ 40) (h3 : m.routers.contains w = false) (h4 : m.routers.length < 4) : ACalls Tryz.prog Γ 106 [.ptr b 0, .str w] σ fun r s => r = .int .i64 0 ∧ RdN σ0 b { m with routers := m.routers ++ [w] } s := by
  have hb := h.box_
  have hs := h.six
  obtain ⟨q0, q1, q2, q3, q4, q5, rfl, a0, a1, a2, a3, a4, a5⟩ := hs
  have d0 : decide ((m.routers.length : Int) = 4) = false := decide_eq_false (by omega)
  have hN := fun σ => NameOK_ok (Γ := Γ) (σ := σ) (s := w) (by omega)
  rw [h1] at hN
  have hC := fun σ => containsStr_ok (Γ := Γ) (σ := σ) (ex := false) (ss := m.routers) (w := w) (by omega)
  rw [h3] at hC
  refine acalls_W c106_ok rfl ?_
  simp (disch := omega) only [c106, go_sem]
  refine SRun.callR (hN _) ⟨[], rfl, rfl⟩ rfl ?_
  simp (disch := omega) only [hb, go_sem]
  refine SRun.callR (Ret.lendL (hC emp) (by exact ⟨a0.lend, .refl _, trivial⟩) (Plain.bool _)) ⟨[], rfl, rfl⟩ rfl ?_
  simp (disch := omega) only [hb, stepW_len_at a0, strsV_len, d0, go_sem]
  refine SRun.appAt (ys := [.str w]) a0 (by exact src_isl) rfl (strs_okN [w]) (by rw [strsV_len]; simp only [List.length_singleton]; omega) ?_
  intro q' s' hA
  rw [strsV_app] at hA
  obtain ⟨hsb, hR⟩ := h.put (i := 0) (by simp [lsN]) rfl hA
  have hqc := hA.at_.cells
  have hq1 := one_only hA.at_.one
  simp (disch := omega) only [hsb, hqc, hq1, List.length_singleton, go_sem]
  exact W_retR c106_ok rfl ⟨rfl, _, hR⟩
theorem naddLink_ok (hg : NumG Γ) {b : Nat} {m : Net} {qs : List V} {wa wb : Wrd} {x y c : Int} (h : RdL σ0 b (lsN m) qs σ) (hx : ofN m wa x) (hy : ofN m wb y) (hxy : x ≠ y) (hlk : linkP m.links x y < 0) (hl6 : m.links.length < 6) (h1 : 1 ≤ c) (h2 : c ≤ 100) (hl : m.routers.length ≤ 100) :
    ACalls Tryz.prog Γ 107 [.ptr b 0, .isl false 1 (strsV [wLink, wa, wb, wCost, itoa c])] σ fun r s => r = .int .i64 0 ∧ RdN σ0 b { m with links := m.links ++ [⟨x, y, c⟩] } s := by
  have hb := h.box_
  have hfr := h.lend
  have hqo := h.ones
  obtain ⟨q0, q1, q2, q3, q4, q5, rfl, a0, a1, a2, a3, a4, a5⟩ := h.six
  have g1 : [wLink, wa, wb, wCost, itoa c].getD 1 [] = wa := rfl
  have g2 : [wLink, wa, wb, wCost, itoa c].getD 2 [] = wb := rfl
  have g4 : [wLink, wa, wb, wCost, itoa c].getD 4 [] = itoa c := rfl
  have p1 : 1 < [wLink, wa, wb, wCost, itoa c].length := by simp
  have p2 : 2 < [wLink, wa, wb, wCost, itoa c].length := by simp
  have p4 : 4 < [wLink, wa, wb, wCost, itoa c].length := by simp
  have hlw := strsV_len [wLink, wa, wb, wCost, itoa c]
  have hil := itoa_len (n := c) (by omega) (by omega)
  have hB := fun σ => bounded_ok (Γ := Γ) (σ := σ) hg (t := itoa c) (lo := 1) (hi := 100) (by omega)
  have hbp : boundP (itoa c) 1 100 = (c, 0) := by unfold boundP; rw [numP_itoa (by omega) (by omega)]; simp only; rw [if_pos ⟨h1, h2⟩]
  rw [hbp] at hB
  have dxy : decide (x = y) = false := decide_eq_false hxy
  have dlk : decide (linkP m.links x y ≥ 0) = false := decide_eq_false (by omega)
  have d6 : decide ((m.links.length : Int) = 6) = false := decide_eq_false (by omega)
  have ht6 : ([q0, q1, q2, q3, q4, q5] : List V).take 6 = [q0, q1, q2, q3, q4, q5] := rfl
  refine acalls_W c107_ok rfl ?_
  simp (disch := omega) only [c107, go_sem]
  refine W_drawW ?_
  simp (disch := omega) only [g1, g2, go_sem]
  refine DRun.callQ (ntwo_ok h hx hy hl) ⟨[], rfl, rfl⟩ ?_
  rintro r s ⟨rfl, hs⟩
  obtain rfl := hs.symm
  simp (disch := omega) only [g4, hlw, List.length_cons, List.length_nil, go_sem]
  refine SRun.callR (hB _) ⟨[], rfl, rfl⟩ rfl ?_
  simp (disch := omega) only [hb, dxy, ht6, go_sem]
  refine SRun.callR (Ret.lendL (linkOf_ok (Γ := Γ) (σ := emp) (n := m) (x := x) (y := y) (by omega)) (by exact ⟨hfr, .refl _, .refl _, trivial⟩) (Plain.int _ _)) ⟨[], rfl, rfl⟩ rfl ?_
  simp (disch := omega) only [hb, dlk, stepW_len_at a1, linksV_len, d6, go_sem]
  refine SRun.appAt (ys := [.agg (linkC ⟨x, y, c⟩)]) a1 (by exact src_isl) rfl (by intro z hz; rw [List.mem_singleton.1 hz]; exact ⟨rfl, by simp [V.cells, V.one, linkC]⟩) (by rw [linksV_len]; simp only [List.length_singleton]; omega) ?_
  intro q' s' hA
  rw [linksV_app] at hA
  obtain ⟨hsb, hR⟩ := h.put (i := 1) (by simp [lsN]) rfl hA
  have hqc := hA.at_.cells
  have hq1 := one_only hA.at_.one
  simp (disch := omega) only [hsb, hqc, hq1, List.length_singleton, go_sem]
  exact W_retR c107_ok rfl ⟨rfl, _, hR⟩
theorem naddFilter_ok (hg : NumG Γ) {b : Nat} {m : Net} {qs : List V} {wa wb : Wrd} {x : Fil} (h : RdL σ0 b (lsN m) qs σ) (hx : ofN m wa x.at_) (hy : ofN m wb x.to) (h1 : 0 ≤ x.low) (h2 : x.low ≤ x.high) (h3 : x.high ≤ 15) (hlk : 0 ≤ linkP m.links x.at_ x.to) (hl6 : m.filters.length < 6) (hl : m.routers.length ≤ 100) (hll : m.links.length ≤ 100) :
    ACalls Tryz.prog Γ 110 [.ptr b 0, .isl false 1 (strsV [wFilter, wa, wTo, wb, wPort, itoa x.low, itoa x.high])] σ fun r s => r = .int .i64 0 ∧ RdN σ0 b { m with filters := m.filters ++ [x] } s := by
  obtain ⟨xa, xt, lo, hi⟩ := x
  dsimp only at hx hy h1 h2 h3 hlk ⊢
  have hb := h.box_
  have hfr := h.lend
  obtain ⟨q0, q1, q2, q3, q4, q5, rfl, a0, a1, a2, a3, a4, a5⟩ := h.six
  have g1 : [wFilter, wa, wTo, wb, wPort, itoa lo, itoa hi].getD 1 [] = wa := rfl
  have g3 : [wFilter, wa, wTo, wb, wPort, itoa lo, itoa hi].getD 3 [] = wb := rfl
  have g5 : [wFilter, wa, wTo, wb, wPort, itoa lo, itoa hi].getD 5 [] = itoa lo := rfl
  have g6 : [wFilter, wa, wTo, wb, wPort, itoa lo, itoa hi].getD 6 [] = itoa hi := rfl
  have p1 : 1 < [wFilter, wa, wTo, wb, wPort, itoa lo, itoa hi].length := by simp
  have p3 : 3 < [wFilter, wa, wTo, wb, wPort, itoa lo, itoa hi].length := by simp
  have p5 : 5 < [wFilter, wa, wTo, wb, wPort, itoa lo, itoa hi].length := by simp
  have p6 : 6 < [wFilter, wa, wTo, wb, wPort, itoa lo, itoa hi].length := by simp
  have hil := itoa_len (n := lo) (by omega) (by omega)
  have hih := itoa_len (n := hi) (by omega) (by omega)
  have hB := fun σ => bounded_ok (Γ := Γ) (σ := σ) hg (t := itoa lo) (lo := 0) (hi := 15) (by omega)
  have hbp : boundP (itoa lo) 0 15 = (lo, 0) := by unfold boundP; rw [numP_itoa (by omega) (by omega)]; simp only; rw [if_pos (by omega)]
  rw [hbp] at hB
  have hB2 := fun σ => bounded_ok (Γ := Γ) (σ := σ) hg (t := itoa hi) (lo := lo) (hi := 15) (by omega)
  have hbp2 : boundP (itoa hi) lo 15 = (hi, 0) := by unfold boundP; rw [numP_itoa (by omega) (by omega)]; simp only; rw [if_pos (by omega)]
  rw [hbp2] at hB2
  have dlk : decide (linkP m.links xa xt < 0) = false := decide_eq_false (by omega)
  have d6 : decide ((m.filters.length : Int) = 6) = false := decide_eq_false (by omega)
  have ht6 : ([q0, q1, q2, q3, q4, q5] : List V).take 6 = [q0, q1, q2, q3, q4, q5] := rfl
  refine acalls_W c110_ok rfl ?_
  simp (disch := omega) only [c110, go_sem]
  refine W_drawW ?_
  simp (disch := omega) only [g1, g3, go_sem]
  refine DRun.callQ (ntwo_ok h hx hy hl) ⟨[], rfl, rfl⟩ ?_
  rintro r s ⟨rfl, hs⟩
  obtain rfl := hs.symm
  simp (disch := omega) only [g5, go_sem]
  refine SRun.callR (hB _) ⟨[], rfl, rfl⟩ rfl ?_
  simp (disch := omega) only [g6, go_sem]
  refine SRun.callR (hB2 _) ⟨[], rfl, rfl⟩ rfl ?_
  simp (disch := omega) only [hb, ht6, go_sem]
  refine SRun.callR (Ret.lendL (linkOf_ok (Γ := Γ) (σ := emp) (n := m) (x := xa) (y := xt) (by omega)) (by exact ⟨hfr, .refl _, .refl _, trivial⟩) (Plain.int _ _)) ⟨[], rfl, rfl⟩ rfl ?_
  simp (disch := omega) only [hb, dlk, stepW_len_at a5, filsV_len, d6, go_sem]
  refine SRun.appAt (ys := [.agg (filC ⟨xa, xt, lo, hi⟩)]) a5 (by exact src_isl) rfl (by intro z hz; rw [List.mem_singleton.1 hz]; exact ⟨rfl, by simp [V.cells, V.one, filC]⟩) (by rw [filsV_len]; simp only [List.length_singleton]; omega) ?_
  intro q' s' hA
  rw [filsV_app] at hA
  obtain ⟨hsb, hR⟩ := h.put (i := 5) (by simp [lsN]) rfl hA
  have hqc := hA.at_.cells
  have hq1 := one_only hA.at_.one
  simp (disch := omega) only [hsb, hqc, hq1, List.length_singleton, go_sem]
  exact W_retR c110_ok rfl ⟨rfl, _, hR⟩
end Go.Proofs.YtjibkkhgejcjeaaGreatDoor.Lg
