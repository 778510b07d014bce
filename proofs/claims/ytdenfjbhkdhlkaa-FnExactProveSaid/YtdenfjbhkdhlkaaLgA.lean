/- The own logic, part A: abstract values, what they say of the machine's memory, and how that stays. It holds for every program. -/
import Derived.Calls
import Derived.Orders
import Derived.Laws.Sem
import Derived.Laws.World
import Derived.Laws.Cells
import Derived.Laws.Append
import Derived.Laws.Slices
set_option linter.unusedSimpArgs false
set_option linter.unusedVariables false
namespace Go.Proofs.Ytdenfjbhkdhlkaa.Lg
open Go

/-- Abstract values. 'isl ex es xs': a slice whose cells nobody writes any more (ex: its capacity is its length). 'msl': a window on a block that is owned. -/
inductive V where
 | bool (b : Bool)
 | int (k : IntKind) (n : Int)
 | str (s : List UInt8)
 | isl (ex : Bool) (es : Nat) (xs : List V)
 | msl (b es off len cap : Nat)
 | ptr (b off : Nat)
 | iptr (cs : List V)
 | nilptr
 | fn (f : FuncId) (cap : List V)
 | nilfn
 | iface (t : TypeId) (v : V)
 | nilif
 | agg (cs : List V)
 | tup (vs : List V)
 | undef

def V.cells : V → List V
 | .agg cs => cs
 | v => [v]
/-- A value of one cell. -/
def V.one : V → Bool
 | .agg _ | .tup _ | .undef => false
 | _ => true
def flat (xs : List V) : List V := xs.flatMap V.cells

/-- What abstract values say: 'O' are the blocks that are owned (and may be written). -/
inductive Rep (w : World) (O : Nat → Prop) : V → Value → Prop
 | bool (b : Bool) : Rep w O (.bool b) (.bool b)
 | int (k : IntKind) (n : Int) : Rep w O (.int k n) (.int k n)
 | str (s : List UInt8) : Rep w O (.str s) (.string ⟨s.toArray⟩)
 | isl0 (ex : Bool) (es : Nat) (a : Option Addr) (c : Nat) : (ex = true → c = 0) → Rep w O (.isl ex es []) (.slice a 0 c)
 | isl (ex : Bool) (es : Nat) (xs : List V) (b off c : Nat) (cell : Nat → Value) : xs ≠ [] → xs.length ≤ c → (ex = true → c = xs.length) → (∀ x ∈ xs, x.cells.length = es) → b < w.heap.size → ¬ O b →
   (∀ (i : Nat) (x : V), (flat xs)[i]? = some x → x.one = true) →
   (∀ (i : Nat) (x : V), (flat xs)[i]? = some x → w.cell? ⟨b, off + i, none⟩ = some (cell i)) →
   (∀ (i : Nat) (x : V), (flat xs)[i]? = some x → Rep w O x (cell i)) → Rep w O (.isl ex es xs) (.slice (some ⟨b, off, none⟩) xs.length c)
 | msl (b es off len cap : Nat) (arr : Array Value) (e : TypeId) (fz : Nat × Nat) : w.heap[b]? = some (.cells arr e fz) → off + cap * es ≤ arr.size → len ≤ cap →
   Rep w O (.msl b es off len cap) (.slice (some ⟨b, off, none⟩) len cap)
 | ptr (b off : Nat) : Rep w O (.ptr b off) (.pointer (some ⟨b, off, none⟩))
 | iptr (cs : List V) (b off : Nat) (cell : Nat → Value) : b < w.heap.size → ¬ O b →
   (∀ (i : Nat) (x : V), cs[i]? = some x → x.one = true) →
   (∀ (i : Nat) (x : V), cs[i]? = some x → w.cell? ⟨b, off + i, none⟩ = some (cell i)) →
   (∀ (i : Nat) (x : V), cs[i]? = some x → Rep w O x (cell i)) → Rep w O (.iptr cs) (.pointer (some ⟨b, off, none⟩))
 | nilptr : Rep w O .nilptr (.pointer none)
 | fn (f : FuncId) (cap : List V) (vs : Array Value) : cap.length = vs.size → (∀ (i : Nat) (x : V), cap[i]? = some x → Rep w O x (vs.getD i undef)) → Rep w O (.fn f cap) (.func (.func f) #[] vs)
 | nilfn : Rep w O .nilfn .nilFunc
 | iface (t : TypeId) (x : V) (v : Value) : Rep w O x v → Rep w O (.iface t x) (.iface t v)
 | nilif : Rep w O .nilif .nilIface
 | agg (cs : List V) (vs : Array Value) : cs.length = vs.size → (∀ (i : Nat) (x : V), cs[i]? = some x → x.one = true) → (∀ (i : Nat) (x : V), cs[i]? = some x → Rep w O x (vs.getD i undef)) → Rep w O (.agg cs) (.agg vs)
 | tup (xs : List V) (vs : Array Value) : xs.length = vs.size → (∀ (i : Nat) (x : V), xs[i]? = some x → Rep w O x (vs.getD i undef)) → Rep w O (.tup xs) (.tuple vs)
 | undef (v : Value) : Rep w O .undef v

/-- What is not memory is as it was. -/
def SameIO (w w' : World) : Prop := w'.os = w.os ∧ w'.tape = w.tape ∧ w'.output = w.output ∧ w.drawn ≤ w'.drawn
/-- The world has gone on: what is not owned is as it was, blocks keep their sizes, what is newly owned is new. -/
structure Keep (w w' : World) (O O' : Nat → Prop) : Prop where
 size : w.heap.size ≤ w'.heap.size
 same : ∀ b, b < w.heap.size → ¬ O b → w'.heap[b]? = w.heap[b]?
 shape : ∀ (b : Nat) (arr : Array Value) (e : TypeId) (fz : Nat × Nat), w.heap[b]? = some (.cells arr e fz) → ∃ arr' fz', w'.heap[b]? = some (.cells arr' e fz') ∧ arr'.size = arr.size
 own : ∀ b, O' b → O b ∨ w.heap.size ≤ b
 io : SameIO w w'

theorem Keep.refl (w : World) (O : Nat → Prop) : Keep w w O O := ⟨Nat.le_refl _, fun _ _ _ => rfl, fun _ arr _ fz h => ⟨arr, fz, h, rfl⟩, fun _ h => .inl h, rfl, rfl, rfl, Nat.le_refl _⟩
theorem Keep.trans {w w1 w2 : World} {O O1 O2 : Nat → Prop} (h : Keep w w1 O O1) (h' : Keep w1 w2 O1 O2) : Keep w w2 O O2 where
 size := Nat.le_trans h.size h'.size
 same b hb ho := by
  rw [h'.same b (Nat.lt_of_lt_of_le hb h.size) (fun h1 => (h.own b h1).elim ho (fun h2 => absurd hb (Nat.not_lt.2 h2))), h.same b hb ho]
 shape b arr e fz hb := by
  obtain ⟨arr1, fz1, h1, e1⟩ := h.shape b arr e fz hb
  obtain ⟨arr2, fz2, h2, e2⟩ := h'.shape b arr1 e fz1 h1
  exact ⟨arr2, fz2, h2, e2.trans e1⟩
 own b hb := by
  rcases h'.own b hb with h1 | h1
  ·exact h.own b h1
  ·exact .inr (Nat.le_trans h.size h1)
 io := ⟨h'.io.1.trans h.io.1, h'.io.2.1.trans h.io.2.1, h'.io.2.2.1.trans h.io.2.2.1, Nat.le_trans h.io.2.2.2 h'.io.2.2.2⟩
theorem Keep.less {w w' : World} {O O' O2 : Nat → Prop} (h : Keep w w' O O') (h2 : ∀ b, O2 b → O' b) : Keep w w' O O2 :=
 ⟨h.size, h.same, h.shape, fun b hb => h.own b (h2 b hb), h.io⟩

theorem Keep.cell {w w' : World} {O O' : Nat → Prop} (h : Keep w w' O O') {b o : Nat} (hb : b < w.heap.size) (ho : ¬ O b) :
  w'.cell? ⟨b, o, none⟩ = w.cell? ⟨b, o, none⟩ := by
 simp only [World.cell?, h.same b hb ho]

theorem Rep.keep {w w' : World} {O O' : Nat → Prop} (hk : Keep w w' O O') {x : V} {v : Value} (h : Rep w O x v) : Rep w' O' x v := by
 have hno : ∀ b, b < w.heap.size → ¬ O b → ¬ O' b := fun b hb ho h' => (hk.own b h').elim ho (fun h2 => absurd hb (Nat.not_lt.2 h2))
 induction h with
 | bool b => exact .bool b
 | int k n => exact .int k n
 | str s => exact .str s
 | isl0 ex es a c h => exact .isl0 ex es a c h
 | isl ex es xs b off c cell h0 h1 h2 h3 hb ho hone hc _ ih =>
  exact .isl ex es xs b off c cell h0 h1 h2 h3 (Nat.lt_of_lt_of_le hb hk.size) (hno b hb ho) hone (fun i x hx => by rw [hk.cell hb ho]; exact hc i x hx) ih
 | msl b es off len cap arr e fz hb hs hl =>
  obtain ⟨arr', fz', hb', hs'⟩ := hk.shape b arr e fz hb
  exact .msl b es off len cap arr' e fz' hb' (by omega) hl
 | ptr b off => exact .ptr b off
 | iptr cs b off cell hb ho hone hc _ ih =>
  exact .iptr cs b off cell (Nat.lt_of_lt_of_le hb hk.size) (hno b hb ho) hone (fun i x hx => by rw [hk.cell hb ho]; exact hc i x hx) ih
 | nilptr => exact .nilptr
 | fn f cap vs hl _ ih => exact .fn f cap vs hl ih
 | nilfn => exact .nilfn
 | iface t x v _ ih => exact .iface t x v ih
 | nilif => exact .nilif
 | agg cs vs hl ho _ ih => exact .agg cs vs hl ho ih
 | tup xs vs hl _ ih => exact .tup xs vs hl ih
 | undef v => exact .undef v

theorem Rep.less {w : World} {O O' : Nat → Prop} (ho : ∀ b, O' b → O b) {x : V} {v : Value} (h : Rep w O x v) : Rep w O' x v :=
 h.keep ((Keep.refl w O).less ho)

theorem Rep.oneCell {w : World} {O : Nat → Prop} {x : V} {v : Value} (h : Rep w O x v) (h1 : x.one = true) : v.oneCell' = true := by
 cases h <;> first | rfl | (simp [V.one] at h1)
theorem Rep.cells_one {w : World} {O : Nat → Prop} {x : V} {v : Value} (h : Rep w O x v) (h1 : x.one = true) : v.cells = #[v] ∧ x.cells = [x] := by
 cases h <;> first | exact ⟨rfl, rfl⟩ | (simp [V.one] at h1)

/-- The owned blocks and what they hold. -/
abbrev St := Nat → Option (List V)
def own (σ : St) : Nat → Prop := fun b => (σ b).isSome = true
def emp : St := fun _ => none
def upd (σ : St) (b : Nat) (cs : List V) : St := fun n => if n = b then some cs else σ n
def del (σ : St) (b : Nat) : St := fun n => if n = b then none else σ n
def cup (σ τ : St) : St := fun n => match σ n with | some x => some x | none => τ n
def disj (σ τ : St) : Prop := ∀ n, σ n = none ∨ τ n = none

theorem upd_same (σ : St) (b : Nat) (cs : List V) : upd σ b cs b = some cs := by simp [upd]
theorem upd_ne (σ : St) {b c : Nat} (cs : List V) (h : c ≠ b) : upd σ b cs c = σ c := by simp [upd, h]
theorem upd_upd (σ : St) (b : Nat) (x y : List V) : upd (upd σ b x) b y = upd σ b y := by
 funext n; by_cases h : n = b <;> simp [upd, h]
theorem upd_comm (σ : St) {a b : Nat} (h : a ≠ b) (x y : List V) : upd (upd σ a x) b y = upd (upd σ b y) a x := by
 funext n; by_cases ha : n = a
 ·subst ha; simp [upd, h]
 ·by_cases hb : n = b
  ·subst hb; simp [upd, ha]
  ·simp [upd, ha, hb]
theorem del_upd (σ : St) {b : Nat} (x : List V) (h : σ b = none) : del (upd σ b x) b = σ := by
 funext n; by_cases hb : n = b
 ·subst hb; simp [del, h]
 ·simp [del, upd, hb]
theorem del_upd_ne (σ : St) {a b : Nat} (x : List V) (h : a ≠ b) : del (upd σ a x) b = upd (del σ b) a x := by
 funext n; by_cases ha : n = a
 ·subst ha; simp [del, upd, h]
 ·by_cases hb : n = b
  ·subst hb; simp [del, upd, ha]
  ·simp [del, upd, ha, hb]
theorem del_same (σ : St) (b : Nat) : del σ b b = none := by simp [del]
theorem del_ne (σ : St) {b c : Nat} (h : c ≠ b) : del σ b c = σ c := by simp [del, h]
theorem upd_del (σ : St) (b : Nat) (x : List V) : upd (del σ b) b x = upd σ b x := by
 funext n; by_cases hb : n = b <;> simp [del, upd, hb]
theorem upd_self (σ : St) {b : Nat} {x : List V} (h : σ b = some x) : upd σ b x = σ := by
 funext n; by_cases hb : n = b
 ·subst hb; simp [upd, h]
 ·simp [upd, hb]
theorem cup_emp (σ : St) : cup σ emp = σ := by funext n; simp only [cup, emp]; cases σ n <;> rfl
theorem disj_emp (σ : St) : disj σ emp := fun _ => .inr rfl
theorem cup_of_some {σ τ : St} {b : Nat} {cs : List V} (h : σ b = some cs) : cup σ τ b = some cs := by simp [cup, h]
theorem cup_upd (σ τ : St) (b : Nat) (cs : List V) : cup (upd σ b cs) τ = upd (cup σ τ) b cs := by
 funext n; by_cases h : n = b <;> simp [cup, upd, h]
theorem cup_del (σ τ : St) (b : Nat) (h : τ b = none) : cup (del σ b) τ = del (cup σ τ) b := by
 funext n; by_cases hb : n = b
 ·subst hb; simp [cup, del, h]
 ·simp [cup, del, hb]
theorem own_upd {σ : St} {b n : Nat} {cs : List V} : own (upd σ b cs) n ↔ n = b ∨ own σ n := by
 unfold own upd; by_cases h : n = b <;> simp [h]
theorem own_del {σ : St} {b n : Nat} : own (del σ b) n ↔ n ≠ b ∧ own σ n := by
 unfold own del; by_cases h : n = b <;> simp [h]
theorem own_of_some {σ : St} {b : Nat} {cs : List V} (h : σ b = some cs) : own σ b := by simp [own, h]
theorem disj_upd {σ τ : St} {b : Nat} {cs : List V} (h : disj σ τ) (hb : τ b = none) : disj (upd σ b cs) τ := by
 intro n; by_cases hn : n = b
 ·subst hn; exact .inr hb
 ·simp only [upd, if_neg hn]; exact h n
theorem disj_del {σ τ : St} {b : Nat} (h : disj σ τ) : disj (del σ b) τ := by
 intro n; by_cases hn : n = b
 ·subst hn; exact .inl (del_same σ n)
 ·rw [del_ne σ hn]; exact h n
theorem disj.other {σ τ : St} {b : Nat} {cs : List V} (h : disj σ τ) (hb : σ b = some cs) : τ b = none := (h b).resolve_left (by simp [hb])

/-- The owned blocks hold what is said of them. -/
def Sim (σ : St) (w : World) : Prop := ∀ b cs, σ b = some cs → ∃ arr e fz, w.heap[b]? = some (.cells arr e fz) ∧ (∀ i, i < arr.size → ¬ (fz.1 ≤ i ∧ i < fz.2)) ∧ cs.length ≤ arr.size ∧
 ∀ (i : Nat) (x : V), cs[i]? = some x → x.one = true ∧ Rep w (own σ) x (arr.getD i undef)

theorem Sim.lt {σ : St} {w : World} (h : Sim σ w) {b : Nat} (hb : own σ b) : b < w.heap.size := by
 unfold own at hb
 obtain ⟨cs, hc⟩ := Option.isSome_iff_exists.1 hb
 obtain ⟨arr, e, fz, h1, _⟩ := h b cs hc
 rcases Nat.lt_or_ge b w.heap.size with h2 | h2
 ·exact h2
 ·simp [Array.getElem?_eq_none h2] at h1
theorem Sim.fresh {σ : St} {w : World} (h : Sim σ w) : σ w.heap.size = none := by
 cases hc : σ w.heap.size with
 | none => rfl
 | some cs => exact absurd (h.lt (own_of_some hc)) (Nat.lt_irrefl _)

/-- Nothing is owned that was not. -/
theorem Sim.less {σ σ' : St} {w : World} (h : Sim σ w) (hl : ∀ b cs, σ' b = some cs → σ b = some cs) : Sim σ' w := by
 have ho : ∀ b, own σ' b → own σ b := by
  intro b hb; unfold own at *
  obtain ⟨cs, hc⟩ := Option.isSome_iff_exists.1 hb
  simp [hl b cs hc]
 intro b cs hb
 obtain ⟨arr, e, fz, h1, h2, h3, h4⟩ := h b cs (hl b cs hb)
 exact ⟨arr, e, fz, h1, h2, h3, fun i x hx => ⟨(h4 i x hx).1, (h4 i x hx).2.less ho⟩⟩

/-- A new block, owned or not; only what is drawn has changed beside. -/
theorem heap_push_old {h : Array Obj} {o : Obj} {b : Nat} (hb : b < h.size) : (h.push o)[b]? = h[b]? := by
 simp [Array.getElem?_push, Nat.ne_of_lt hb]
theorem heap_push_new {h : Array Obj} {o : Obj} : (h.push o)[h.size]? = some o := by simp
theorem lt_of_get {h : Array Obj} {b : Nat} {o : Obj} (hb : h[b]? = some o) : b < h.size := by
 rcases Nat.lt_or_ge b h.size with h2 | h2
 ·exact h2
 ·simp [Array.getElem?_eq_none h2] at hb

theorem Keep.push {w w' : World} {O : Nat → Prop} {o : Obj} (hh : w'.heap = w.heap.push o) (hio : SameIO w w' := by first | exact ⟨rfl, rfl, rfl, Nat.le_refl _⟩ | exact ⟨rfl, rfl, rfl, Nat.le_succ _⟩) : Keep w w' O O where
 size := by rw [hh]; simp
 same b hb _ := by rw [hh, heap_push_old hb]
 shape b arr e fz hb := ⟨arr, fz, by rw [hh, heap_push_old (lt_of_get hb)]; exact hb, rfl⟩
 own b hb := .inl hb
 io := hio
theorem Keep.eqHeap {w w' : World} {O : Nat → Prop} (hh : w'.heap = w.heap) (hio : SameIO w w' := by first | exact ⟨rfl, rfl, rfl, Nat.le_refl _⟩ | exact ⟨rfl, rfl, rfl, Nat.le_succ _⟩) : Keep w w' O O where
 size := by rw [hh]; exact Nat.le_refl _
 same b _ _ := by rw [hh]
 shape b arr e fz hb := ⟨arr, fz, by rw [hh]; exact hb, rfl⟩
 own b hb := .inl hb
 io := hio
theorem Keep.ownNew {w w' : World} {O : Nat → Prop} {b : Nat} {O' : Nat → Prop} (h : Keep w w' O O) (ho : ∀ n, O' n → O n ∨ n = b) (hb : w.heap.size ≤ b) : Keep w w' O O' :=
 ⟨h.size, h.same, h.shape, fun n hn => (ho n hn).imp id (fun (e : n = b) => by rw [e]; exact hb), h.io⟩

theorem Sim.keep {σ : St} {w w' : World} (h : Sim σ w) (hk : Keep w w' (own σ) (own σ)) (hs : ∀ b, own σ b → w'.heap[b]? = w.heap[b]?) : Sim σ w' := by
 intro b cs hb
 obtain ⟨arr, e, fz, h1, h2, h3, h4⟩ := h b cs hb
 exact ⟨arr, e, fz, by rw [hs b (own_of_some hb)]; exact h1, h2, h3, fun i x hx => ⟨(h4 i x hx).1, (h4 i x hx).2.keep hk⟩⟩
theorem Sim.push {σ : St} {w w' : World} {o : Obj} (h : Sim σ w) (hh : w'.heap = w.heap.push o) (hio : SameIO w w' := by first | exact ⟨rfl, rfl, rfl, Nat.le_refl _⟩ | exact ⟨rfl, rfl, rfl, Nat.le_succ _⟩) : Sim σ w' :=
 h.keep (.push hh hio) fun b hb => by rw [hh, heap_push_old (h.lt hb)]
theorem Sim.eqHeap {σ : St} {w w' : World} (h : Sim σ w) (hh : w'.heap = w.heap) (hio : SameIO w w' := by first | exact ⟨rfl, rfl, rfl, Nat.le_refl _⟩ | exact ⟨rfl, rfl, rfl, Nat.le_succ _⟩) : Sim σ w' :=
 h.keep (.eqHeap hh hio) fun b _ => by rw [hh]
/-- The new block is owned. -/
theorem Sim.new {σ : St} {w w' : World} {arr : Array Value} {e : TypeId} {cs : List V} (h : Sim σ w) (hh : w'.heap = w.heap.push (.cells arr e)) (hl : cs.length ≤ arr.size)
  (hc : ∀ (i : Nat) (x : V), cs[i]? = some x → x.one = true ∧ Rep w (own σ) x (arr.getD i undef)) (hio : SameIO w w' := by first | exact ⟨rfl, rfl, rfl, Nat.le_refl _⟩ | exact ⟨rfl, rfl, rfl, Nat.le_succ _⟩) :
  Sim (upd σ w.heap.size cs) w' ∧ Keep w w' (own σ) (own (upd σ w.heap.size cs)) := by
 have hk : Keep w w' (own σ) (own (upd σ w.heap.size cs)) := (Keep.push hh hio).ownNew (b := w.heap.size) (fun n hn => (own_upd.1 hn).symm) (Nat.le_refl _)
 refine ⟨?_, hk⟩
 intro b xs hb
 by_cases hn : b = w.heap.size
 ·subst hn
  rw [upd_same] at hb
  obtain rfl := Option.some.inj hb
  exact ⟨arr, e, (0, 0), by rw [hh]; exact heap_push_new, fun i _ h2 => by simp at h2, hl, fun i x hx => ⟨(hc i x hx).1, (hc i x hx).2.keep hk⟩⟩
 ·rw [upd_ne σ cs hn] at hb
  obtain ⟨arr1, e1, fz, h1, h2, h3, h4⟩ := h b xs hb
  exact ⟨arr1, e1, fz, by rw [hh, heap_push_old (lt_of_get h1)]; exact h1, h2, h3, fun i x hx => ⟨(h4 i x hx).1, (h4 i x hx).2.keep hk⟩⟩
/-- An owned block's cells are other ones. -/
theorem Sim.write {σ : St} {w w' : World} {b : Nat} {arr arr' : Array Value} {e : TypeId} {fz : Nat × Nat} {cs cs' : List V} (h : Sim σ w) (hb : σ b = some cs) (hw : w.heap[b]? = some (.cells arr e fz))
  (hne : ∀ n, n ≠ b → w'.heap[n]? = w.heap[n]?) (heq : w'.heap[b]? = some (.cells arr' e fz)) (hsz : w'.heap.size = w.heap.size) (hs : arr'.size = arr.size) (hl : cs'.length ≤ arr.size)
  (hc : ∀ (i : Nat) (x : V), cs'[i]? = some x → x.one = true ∧ Rep w (own σ) x (arr'.getD i undef)) (hio : SameIO w w' := by first | exact ⟨rfl, rfl, rfl, Nat.le_refl _⟩ | exact ⟨rfl, rfl, rfl, Nat.le_succ _⟩) :
  Sim (upd σ b cs') w' ∧ Keep w w' (own σ) (own (upd σ b cs')) := by
 have hk : Keep w w' (own σ) (own (upd σ b cs')) := by
  refine ⟨by rw [hsz]; exact Nat.le_refl _, fun n hn ho => ?_, fun n ar e1 fz1 hn => ?_, fun n hn => ?_, hio⟩
  ·exact hne n (fun he => ho (he ▸ own_of_some hb))
  ·by_cases he : n = b
   ·subst he
    rw [hw] at hn; injection hn with hn; injection hn with h1 h2 h3
    subst h1 h2 h3
    exact ⟨arr', fz, heq, hs⟩
   ·exact ⟨ar, fz1, by rw [hne n he]; exact hn, rfl⟩
  ·rcases own_upd.1 hn with he | he
   ·exact .inl (he ▸ own_of_some hb)
   ·exact .inl he
 refine ⟨?_, hk⟩
 intro n xs hn
 by_cases he : n = b
 ·subst he
  rw [upd_same] at hn; obtain rfl := Option.some.inj hn
  obtain ⟨ar0, e0, fz0, g1, g2, g3, _⟩ := h n cs hb
  rw [hw] at g1; injection g1 with g1; injection g1 with h1 h2 h3
  subst h1 h2 h3
  exact ⟨arr', _, _, heq, by rw [hs]; exact g2, by omega, fun i x hx => ⟨(hc i x hx).1, (hc i x hx).2.keep hk⟩⟩
 ·rw [upd_ne σ cs' he] at hn
  obtain ⟨ar0, e0, fz0, g1, g2, g3, g4⟩ := h n xs hn
  exact ⟨ar0, e0, fz0, by rw [hne n he]; exact g1, g2, g3, fun i x hx => ⟨(g4 i x hx).1, (g4 i x hx).2.keep hk⟩⟩

/-- What is known of the package's variables. -/
def Glob (Γ : St) (w : World) (O : Nat → Prop) : Prop := ∀ g cs, Γ g = some cs → Rep w O (.iptr cs) (.pointer (some ⟨g, 0, none⟩))
theorem Glob.keep {Γ : St} {w w' : World} {O O' : Nat → Prop} (h : Glob Γ w O) (hk : Keep w w' O O') : Glob Γ w' O' := fun g cs hg => (h g cs hg).keep hk

/-- What is known of the temporaries: the newest first. -/
abbrev Ts := List (Nat × V)
def look : Ts → Nat → V
 | [], _ => .undef
 | (t, v) :: r, n => if t = n then v else look r n
def Knows (w : World) (O : Nat → Prop) (T : Ts) (tmps : Array Value) : Prop := ∀ n, Rep w O (look T n) (tmps.getD n Go.undef)
theorem Knows.keep {w w' : World} {O O' : Nat → Prop} {T : Ts} {tmps : Array Value} (h : Knows w O T tmps) (hk : Keep w w' O O') : Knows w' O' T tmps := fun n => (h n).keep hk
theorem Knows.put {w : World} {O : Nat → Prop} {T : Ts} {tmps : Array Value} (h : Knows w O T tmps) {d : Nat} {x : V} {v : Value} (hd : d < tmps.size) (hx : Rep w O x v) :
  Knows w O ((d, x) :: T) (tmps.setIfInBounds d v) := by
 intro n
 by_cases hn : d = n
 ·subst hn
  simp only [look, if_true, Array.getD_eq_getD_getElem?, Array.getElem?_setIfInBounds_self_of_lt hd, Option.getD_some]
  exact hx
 ·simp only [look, if_neg hn, Array.getD_eq_getD_getElem?, Array.getElem?_setIfInBounds_ne hn]
  have := h n
  rwa [Array.getD_eq_getD_getElem?] at this
/-- Less is known. -/
theorem Knows.less {w : World} {O : Nat → Prop} {T T' : Ts} {tmps : Array Value} (h : Knows w O T tmps) (hl : ∀ p ∈ T', look T p.1 = p.2) : Knows w O T' tmps := by
 intro n
 have : look T' n = .undef ∨ look T' n = look T n := by
  clear h
  induction T' with
  | nil => exact .inl rfl
  | cons p r ih =>
   obtain ⟨t, v⟩ := p
   have hp := hl (t, v) (List.mem_cons_self ..)
   by_cases hb : t = n
   ·subst hb
    simp only [look, if_true]
    exact .inr hp.symm
   ·simp only [look, if_neg hb]; exact ih fun q hq => hl q (List.mem_cons_of_mem _ hq)
 rcases this with e | e
 ·rw [e]; exact .undef _
 ·rw [e]; exact h n

end Go.Proofs.Ytdenfjbhkdhlkaa.Lg
