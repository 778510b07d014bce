/- Networks and properties that come in. -/
import Derived.Test.YtjibkkhgejcjeaaGreatDoorGr
import Derived.Test.YtjibkkhgejcjeaaGreatDoorKr3
set_option linter.unusedSimpArgs false
set_option linter.unusedVariables false
namespace Go.Proofs.YtjibkkhgejcjeaaGreatDoor.Lg
open Go Go.ChangeShapes Go.WideShapes
section
variable {P : Program} {ti ts : TypeId} (hi : P.underlying ti = some (.int .i64)) (ci : P.cellsOf ti = 1) (hs : P.underlying ts = some .string) (cs : P.cellsOf ts = 1)
include hi in
theorem in_int {a : V} (h : InV P ti [a]) : ∃ n, a = .int .i64 n := by
  obtain ⟨n, h1, h2⟩ := h.int_inv hi
  exact ⟨n, by simpa using h1⟩
include hi ci in
theorem in_ints {t : TypeId} (ht : P.underlying t = some (.slice ti)) {a : V} (h : InV P t [a]) : ∃ zs : List Int, a = .isl false 1 (ints zs) ∧ zs.length ≤ 9223372036854775807 := by
  obtain ⟨zs, h1, h2, _⟩ := h.slmap (F := fun x => V.int .i64 x) (p := fun _ => True) ht fun y hp hy => by
    obtain ⟨n, h1, h2⟩ := hy.int_inv hi
    exact ⟨n, one_of_single h1 (by unfold packed at hp; rw [hi] at hp; exact hp), trivial⟩
  rw [ci] at h1
  exact ⟨zs, h1, h2⟩
include hs cs in
theorem in_strs {t : TypeId} (ht : P.underlying t = some (.slice ts)) {a : V} (h : InV P t [a]) : ∃ zs : List (List UInt8), a = .isl false 1 (strsV zs) ∧ zs.length ≤ 9223372036854775807 ∧ ∀ s ∈ zs, s.length ≤ 9223372036854775807 := by
  obtain ⟨zs, h1, h2, h3⟩ := h.slmap (F := fun x => V.str x) (p := fun s => s.length ≤ 9223372036854775807) ht fun y hp hy => by
    obtain ⟨n, h1, h2⟩ := hy.str_inv hs
    exact ⟨n, one_of_single h1 (by unfold packed at hp; rw [hs] at hp; exact hp), h2⟩
  rw [cs] at h1
  exact ⟨zs, h1, h2, h3⟩
theorem take_at {xs : List V} {i : Nat} {a : V} (h : xs[i]? = some a) : (xs.drop i).take 1 = [a] := by
  have hi := (List.getElem?_eq_some_iff.1 h).1
  rw [List.drop_eq_getElem_cons hi, (List.getElem?_eq_some_iff.1 h).2]; rfl
/-- A structure's field of one cell. -/
theorem InV.field {t : TypeId} {fs : Array Field} {xs : List V} (h : InV P t xs) (hu : P.underlying t = some (.struct fs)) {i : Nat} {f : Field} (hf : fs[i]? = some f) (ho : f.offset = i) (hc : P.cellsOf f.type = 1) {a : V} (ha : xs[i]? = some a) : InV P f.type [a] := by
  have := (h.st_inv hu).2 i f hf
  rw [ho, hc, take_at ha] at this
  exact this
include hi ci in
/-- A structure of whole numbers. -/
theorem in_row {t : TypeId} {fs : Array Field} {xs : List V} (h : InV P t xs) (hu : P.underlying t = some (.struct fs)) (hc : P.cellsOf t = fs.size) (hall : ∀ (i : Nat) (f : Field), fs[i]? = some f → f.offset = i ∧ f.type = ti) : ∃ zs : List Int, xs = ints zs ∧ zs.length = fs.size := by
  have hl := (h.st_inv hu).1
  rw [hc] at hl
  obtain ⟨zs, h1, _⟩ := list_map (ys := xs) (F := fun x => V.int .i64 x) (p := fun _ => True) fun y hy => by
    obtain ⟨i, hi2, rfl⟩ := List.getElem_of_mem hy
    have hf : fs[i]? = some fs[i] := by simp [show i < fs.size by omega]
    obtain ⟨e1, e2⟩ := hall i _ hf
    have := h.field hu hf e1 (by rw [e2]; exact ci) (List.getElem?_eq_getElem hi2)
    rw [e2] at this
    obtain ⟨n, hn⟩ := in_int hi this
    exact ⟨n, hn, trivial⟩
  exact ⟨zs, h1, by rw [← hl, h1, List.length_map]⟩
theorem in_structs {t e : TypeId} {fs : Array Field} {a : V} {α : Type} {C : α → List V} (h : InV P t [a]) (hu : P.underlying t = some (.slice e)) (he : P.underlying e = some (.struct fs)) (hC : ∀ xs, InV P e xs → ∃ x, xs = C x) :
    ∃ zs : List α, a = .isl false (P.cellsOf e) (zs.map fun x => .agg (C x)) ∧ zs.length ≤ 9223372036854775807 := by
  obtain ⟨zs, h1, h2, _⟩ := h.slmap (F := fun x => V.agg (C x)) (p := fun _ => True) hu fun y hp hy => by
    unfold packed at hp
    rw [he] at hp
    obtain ⟨cs, rfl⟩ := hp
    obtain ⟨x, hx⟩ := hC _ hy
    refine ⟨x, ?_, trivial⟩
    show V.agg cs = V.agg (C x)
    rw [← hx]; rfl
  exact ⟨zs, h1, h2⟩
/-- Fields of whole numbers, told by a test. -/
def intRow (ti : TypeId) (fs : Array Field) : Bool := (List.range fs.size).all fun i => match fs[i]? with | some f => f.offset == i && f.type == ti | none => true
theorem intRow_ok {ti : TypeId} {fs : Array Field} (h : intRow ti fs = true) : ∀ (i : Nat) (f : Field), fs[i]? = some f → f.offset = i ∧ f.type = ti := by
  intro i f hf
  have hi : i < fs.size := (Array.getElem?_eq_some_iff.1 hf).1
  have := List.all_eq_true.1 h i (List.mem_range.2 hi)
  rw [hf] at this
  simpa using this
include hi ci in
theorem in_link {t : TypeId} {fs : Array Field} {xs : List V} (h : InV P t xs) (hu : P.underlying t = some (.struct fs)) (hr : (intRow ti fs && fs.size == 3) = true) (hc : P.cellsOf t = 3) : ∃ l : Link, xs = linkC l := by
  simp only [Bool.and_eq_true, beq_iff_eq] at hr
  obtain ⟨zs, rfl, hz⟩ := in_row hi ci h hu (by rw [hc, hr.2]) (intRow_ok hr.1)
  rw [hr.2] at hz
  match zs, hz with
  | [a, b, c], _ => exact ⟨⟨a, b, c⟩, rfl⟩
include hi ci in
theorem in_imp {t : TypeId} {fs : Array Field} {xs : List V} (h : InV P t xs) (hu : P.underlying t = some (.struct fs)) (hr : (intRow ti fs && fs.size == 5) = true) (hc : P.cellsOf t = 5) : ∃ l : Imp, xs = impC l := by
  simp only [Bool.and_eq_true, beq_iff_eq] at hr
  obtain ⟨zs, rfl, hz⟩ := in_row hi ci h hu (by rw [hc, hr.2]) (intRow_ok hr.1)
  rw [hr.2] at hz
  match zs, hz with
  | [a, b, c, d, e], _ => exact ⟨⟨a, b, c, d, e⟩, rfl⟩
include hi ci in
theorem in_fil {t : TypeId} {fs : Array Field} {xs : List V} (h : InV P t xs) (hu : P.underlying t = some (.struct fs)) (hr : (intRow ti fs && fs.size == 4) = true) (hc : P.cellsOf t = 4) : ∃ l : Fil, xs = filC l := by
  simp only [Bool.and_eq_true, beq_iff_eq] at hr
  obtain ⟨zs, rfl, hz⟩ := in_row hi ci h hu (by rw [hc, hr.2]) (intRow_ok hr.1)
  rw [hr.2] at hz
  match zs, hz with
  | [a, b, c, d], _ => exact ⟨⟨a, b, c, d⟩, rfl⟩
end
/-- The types that a network is made of. -/
structure NetT (P : Program) (tn : TypeId) : Prop where
  ok : ∃ (ti ts tis tss tl tls tp tps tf tfs : TypeId) (fl fi ff fs : Array Field), P.underlying ti = some (.int .i64) ∧ P.cellsOf ti = 1 ∧ P.underlying ts = some .string ∧ P.cellsOf ts = 1 ∧
    P.underlying tis = some (.slice ti) ∧ P.cellsOf tis = 1 ∧ P.underlying tss = some (.slice ts) ∧ P.cellsOf tss = 1 ∧
    P.underlying tl = some (.struct fl) ∧ (intRow ti fl && fl.size == 3) = true ∧ P.cellsOf tl = 3 ∧ P.underlying tls = some (.slice tl) ∧ P.cellsOf tls = 1 ∧
    P.underlying tp = some (.struct fi) ∧ (intRow ti fi && fi.size == 5) = true ∧ P.cellsOf tp = 5 ∧ P.underlying tps = some (.slice tp) ∧ P.cellsOf tps = 1 ∧
    P.underlying tf = some (.struct ff) ∧ (intRow ti ff && ff.size == 4) = true ∧ P.cellsOf tf = 4 ∧ P.underlying tfs = some (.slice tf) ∧ P.cellsOf tfs = 1 ∧
    P.underlying tn = some (.struct fs) ∧ P.cellsOf tn = 6 ∧ fs.toList.map (fun f => (f.type, f.offset)) = [(tss, 0), (tls, 1), (tis, 2), (tis, 3), (tps, 4), (tfs, 5)]
theorem in_net {P : Program} {tn : TypeId} (hn : NetT P tn) {xs : List V} (h : InV P tn xs) : ∃ n : Net, xs = netC n ∧ NetIn n := by
  obtain ⟨ti, ts, tis, tss, tl, tls, tp, tps, tf, tfs, fl, fi, ff, fs, hi, ci, hs, cs, his, cis, hss, css, hl, rl, cl, hls, cls, hp, rp, cp, hps, cps, hf, rf', cf, hfs, cfs, hu, cn, hfl⟩ := hn
  have hlen := (h.st_inv hu).1
  rw [cn] at hlen
  have hget : ∀ (i : Nat) (t : TypeId) (o : Nat), [(tss, 0), (tls, 1), (tis, 2), (tis, 3), (tps, 4), (tfs, 5)][i]? = some (t, o) → ∃ f, fs[i]? = some f ∧ f.type = t ∧ f.offset = o := by
    intro i t o hi
    rw [← hfl, List.getElem?_map, Option.map_eq_some_iff] at hi
    obtain ⟨f, h1, h2⟩ := hi
    obtain ⟨rfl, rfl⟩ := Prod.mk.inj h2
    exact ⟨f, by simpa using h1, rfl, rfl⟩
  have hfld : ∀ (i : Nat) (t : TypeId) (a : V), [(tss, 0), (tls, 1), (tis, 2), (tis, 3), (tps, 4), (tfs, 5)][i]? = some (t, i) → P.cellsOf t = 1 → xs[i]? = some a → InV P t [a] := by
    intro i t a h1 h2 h3
    obtain ⟨f, f1, rfl, f3⟩ := hget i t i h1
    exact h.field hu f1 f3 h2 h3
  match xs, hlen with
  | [a, b, c, d, e, g], _ =>
    obtain ⟨x0, rfl, l0, m0⟩ := in_strs hs cs hss (hfld 0 tss a rfl css rfl)
    obtain ⟨x1, rfl, l1⟩ := in_structs (hfld 1 tls b rfl cls rfl) hls hl fun _ h => in_link hi ci h hl rl cl
    obtain ⟨x2, rfl, l2⟩ := in_ints hi ci his (hfld 2 tis c rfl cis rfl)
    obtain ⟨x3, rfl, l3⟩ := in_ints hi ci his (hfld 3 tis d rfl cis rfl)
    obtain ⟨x4, rfl, l4⟩ := in_structs (hfld 4 tps e rfl cps rfl) hps hp fun _ h => in_imp hi ci h hp rp cp
    obtain ⟨x5, rfl, l5⟩ := in_structs (hfld 5 tfs g rfl cfs rfl) hfs hf fun _ h => in_fil hi ci h hf rf' cf
    rw [cl, cp, cf]
    exact ⟨⟨x0, x1, x2, x3, x4, x5⟩, rfl, ⟨l0, m0, l1, l2, l3, l4, l5⟩⟩
end Go.Proofs.YtjibkkhgejcjeaaGreatDoor.Lg
