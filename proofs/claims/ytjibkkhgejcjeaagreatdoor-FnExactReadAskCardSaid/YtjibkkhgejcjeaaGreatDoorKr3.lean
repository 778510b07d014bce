/- What is told of the functions that are reached, as far as it is asked here. -/
import Derived.Test.YtjibkkhgejcjeaaGreatDoorKr2
import Derived.KernelRfl
set_option linter.unusedSimpArgs false
set_option linter.unusedVariables false
namespace Go.Proofs.YtjibkkhgejcjeaaGreatDoor.Lg
open Go
section
section
attribute [local irreducible] SRun DS DRun
variable {Γ : St} {σ σ0 : St}
/-- What is told of what is left: where it is no less than nothing, what was taken off is small. -/
def Left (l : Int) (p : Prop) (r : V) : Prop := ∃ x : Int, r = .int .i64 x ∧ x ≤ l ∧ -1 ≤ x ∧ (0 ≤ x → p)
theorem szIntS_ok {ex : Bool} {es : Nat} {xs : List V} {l : Int} (hl : 0 ≤ l ∧ l ≤ 1048576) (h1 : xs.length ≤ 9223372036854775807) : ACalls Tryz.prog Γ 24 [.isl ex es xs, .int .i64 l] σ fun r s => s = σ ∧ Left l (xs.length ≤ 1048576) r := by
  refine acalls_W c24_ok rfl ?_
  simp (disch := omega) only [c24, go_sem]
  first | refine iteW_dec (fun h => ?_) (fun h => ?_) | refine iteW_of (fun h => ?_) (fun h => ?_)
  · simp (disch := omega) only [go_sem]
    exact W_retR c24_ok rfl ⟨rfl, -1, rfl, by omega, by omega, fun h => by omega⟩
  · simp (disch := omega) only [go_sem]
    exact W_retR c24_ok rfl ⟨rfl, l - xs.length, rfl, by omega, by omega, fun h => by omega⟩
theorem szLinkS_ok {ex : Bool} {es : Nat} {xs : List V} {l : Int} (hl : 0 ≤ l ∧ l ≤ 1048576) (h1 : xs.length ≤ 9223372036854775807) : ACalls Tryz.prog Γ 23 [.isl ex es xs, .int .i64 l] σ fun r s => s = σ ∧ Left l (xs.length ≤ 1048576) r := by
  refine acalls_W c23_ok rfl ?_
  simp (disch := omega) only [c23, go_sem]
  first | refine iteW_dec (fun h => ?_) (fun h => ?_) | refine iteW_of (fun h => ?_) (fun h => ?_)
  · simp (disch := omega) only [go_sem]
    exact W_retR c23_ok rfl ⟨rfl, -1, rfl, by omega, by omega, fun h => by omega⟩
  · simp (disch := omega) only [go_sem]
    exact W_retR c23_ok rfl ⟨rfl, l - xs.length, rfl, by omega, by omega, fun h => by omega⟩
theorem szImportS_ok {ex : Bool} {es : Nat} {xs : List V} {l : Int} (hl : 0 ≤ l ∧ l ≤ 1048576) (h1 : xs.length ≤ 9223372036854775807) : ACalls Tryz.prog Γ 25 [.isl ex es xs, .int .i64 l] σ fun r s => s = σ ∧ Left l (xs.length ≤ 1048576) r := by
  refine acalls_W c25_ok rfl ?_
  simp (disch := omega) only [c25, go_sem]
  first | refine iteW_dec (fun h => ?_) (fun h => ?_) | refine iteW_of (fun h => ?_) (fun h => ?_)
  · simp (disch := omega) only [go_sem]
    exact W_retR c25_ok rfl ⟨rfl, -1, rfl, by omega, by omega, fun h => by omega⟩
  · simp (disch := omega) only [go_sem]
    exact W_retR c25_ok rfl ⟨rfl, l - xs.length, rfl, by omega, by omega, fun h => by omega⟩
theorem szFilterS_ok {ex : Bool} {es : Nat} {xs : List V} {l : Int} (hl : 0 ≤ l ∧ l ≤ 1048576) (h1 : xs.length ≤ 9223372036854775807) : ACalls Tryz.prog Γ 26 [.isl ex es xs, .int .i64 l] σ fun r s => s = σ ∧ Left l (xs.length ≤ 1048576) r := by
  refine acalls_W c26_ok rfl ?_
  simp (disch := omega) only [c26, go_sem]
  first | refine iteW_dec (fun h => ?_) (fun h => ?_) | refine iteW_of (fun h => ?_) (fun h => ?_)
  · simp (disch := omega) only [go_sem]
    exact W_retR c26_ok rfl ⟨rfl, -1, rfl, by omega, by omega, fun h => by omega⟩
  · simp (disch := omega) only [go_sem]
    exact W_retR c26_ok rfl ⟨rfl, l - xs.length, rfl, by omega, by omega, fun h => by omega⟩
theorem szStringS_ok {ex : Bool} {ss : List (List UInt8)} {l : Int} (hl : 0 ≤ l ∧ l ≤ 1048576) (h1 : ss.length ≤ 9223372036854775807) (h2 : ∀ s ∈ ss, s.length ≤ 9223372036854775807) : ACalls Tryz.prog Γ 22 [.isl ex 1 (strsV ss), .int .i64 l] σ fun r s => s = σ ∧ Left l (ss.length ≤ 1048576 ∧ ∀ s ∈ ss, s.length ≤ 1048576) r := by
  refine acalls_W c22_ok rfl ?_
  simp (disch := omega) only [c22, go_sem]
  first | refine iteW_dec (fun h => ?_) (fun h => ?_) | refine iteW_of (fun h => ?_) (fun h => ?_)
  · simp (disch := omega) only [go_sem]
    exact W_retR c22_ok rfl ⟨rfl, -1, rfl, by omega, by omega, fun h => by omega⟩
  · simp (disch := omega) only [go_sem]
    refine W_loopC (α := Nat × Int) (fun p => p.1 ≤ ss.length ∧ 0 ≤ p.2 ∧ p.2 ≤ l ∧ ∀ j, j < p.1 → (ss.getD j []).length ≤ 1048576) (fun p => [(0, .isl ex 1 (strsV ss)), (1, .int .i64 p.2), (5, .int .i64 (p.1 : Nat))]) (fun _ => σ) (fun p => ss.length - p.1) (0, l - ss.length) ⟨by omega, by simp only; omega, by simp only; omega, fun j hj => absurd hj (by simp)⟩ (by simp (disch := omega) only [subT, Int.natCast_add, Int.cast_ofNat_Int, go_sem] <;> (repeat' apply And.intro) <;> first | rfl | (congr 1; omega) | assumption) rfl ?_
    rintro ⟨i, m⟩ ⟨hi, hm0, hm, hall⟩ ih
    dsimp only at hi hm0 hm hall
    simp (disch := omega) only [go_sem]
    first | refine iteW_dec (fun hq => ?_) (fun hq => ?_) | refine iteW_of (fun hq => ?_) (fun hq => ?_)
    · have hs := h2 _ (getD_mem [] (by omega : i < ss.length))
      simp (disch := omega) only [go_sem]
      first | refine iteW_dec (fun hr => ?_) (fun hr => ?_) | refine iteW_of (fun hr => ?_) (fun hr => ?_)
      · simp (disch := omega) only [go_sem]
        exact W_retR c22_ok rfl ⟨rfl, -1, rfl, by omega, by omega, fun h => by omega⟩
      · simp (disch := omega) only [go_sem]
        refine ih (i + 1, m - (ss.getD i []).length) _ _ ⟨by omega, by simp only; omega, by simp only; omega, fun j hj => ?_⟩ (by simp only; omega) (by simp (disch := omega) only [subT, Int.natCast_add, Int.cast_ofNat_Int, go_sem] <;> (repeat' apply And.intro) <;> first | rfl | (congr 1; omega) | assumption) rfl
        by_cases e : j = i
        · subst e; omega
        · exact hall j (by omega)
    · have hil : i = ss.length := by omega
      subst hil
      simp (disch := omega) only [go_sem]
      refine W_retR c22_ok rfl ⟨rfl, m, rfl, by omega, by omega, fun _ => ⟨by omega, fun s hs => ?_⟩⟩
      obtain ⟨j, hj, rfl⟩ := List.getElem_of_mem hs
      have := hall j hj
      simpa [List.getD, hj] using this
/-- How long things are that come in at all. -/
structure NetIn (n : Net) : Prop where
  routers : n.routers.length ≤ 9223372036854775807
  names : ∀ s ∈ n.routers, s.length ≤ 9223372036854775807
  links : n.links.length ≤ 9223372036854775807
  origins : n.origins.length ≤ 9223372036854775807
  externals : n.externals.length ≤ 9223372036854775807
  imports : n.imports.length ≤ 9223372036854775807
  filters : n.filters.length ≤ 9223372036854775807
/-- How long they are where they are asked about. -/
structure NetFew (n : Net) : Prop where
  routers : n.routers.length ≤ 1048576
  names : ∀ s ∈ n.routers, s.length ≤ 1048576
  links : n.links.length ≤ 1048576
  origins : n.origins.length ≤ 1048576
  externals : n.externals.length ≤ 1048576
  imports : n.imports.length ≤ 1048576
  filters : n.filters.length ≤ 1048576
theorem szNet_ok {n : Net} (hn : NetIn n) {l : Int} (hl : 0 ≤ l ∧ l ≤ 1048576) : ACalls Tryz.prog Γ 6 [netV n, .int .i64 l] σ fun r s => s = σ ∧ Left l (NetFew n) r := by
  have e0 : (netC n)[0]? = some (.isl false 1 (strsV n.routers)) := rfl
  have e1 : (netC n)[1]? = some (.isl false 3 (linksV n.links)) := rfl
  have e2 : (netC n)[2]? = some (.isl false 1 (ints n.origins)) := rfl
  have e3 : (netC n)[3]? = some (.isl false 1 (ints n.externals)) := rfl
  have e4 : (netC n)[4]? = some (.isl false 5 (impsV n.imports)) := rfl
  have e5 : (netC n)[5]? = some (.isl false 4 (filsV n.filters)) := rfl
  refine acalls_W c6_ok rfl ?_
  simp (disch := omega) only [c6, netV, go_sem]
  refine SRun.boxR (net_one n) ?_
  intro b1 hb1
  have g1 := upd_same σ b1 (netC n)
  have hσ : ∀ d x, σ d = some x → upd σ b1 (netC n) d = some x := le_upd hb1
  simp (disch := omega) only [go_sem]
  generalize upd σ b1 (netC n) = s1 at *
  simp (disch := omega) only [g1, e0, go_sem]
  refine SRun.callQ (szStringS_ok hl hn.routers hn.names) ⟨[], rfl, rfl⟩ rfl ?_
  rintro r s ⟨rfl, x1, rfl, h1, h1', k1⟩
  simp (disch := omega) only [go_sem]
  first | refine iteW_dec (fun q1 => ?_) (fun q1 => ?_) | refine iteW_of (fun q1 => ?_) (fun q1 => ?_)
  · simp (disch := omega) only [go_sem]
    exact W_retC c6_ok rfl (Conv.drop _ hσ) ⟨rfl, -1, rfl, by omega, by omega, fun h => by omega⟩
  simp (disch := omega) only [g1, e1, go_sem]
  refine SRun.callQ (szLinkS_ok (es := 3) (xs := linksV n.links) ⟨by omega, by omega⟩ (by rw [linksV_len]; exact hn.links)) ⟨[], rfl, rfl⟩ rfl ?_
  rintro r s ⟨rfl, x2, rfl, h2, h2', k2⟩
  simp (disch := omega) only [go_sem]
  first | refine iteW_dec (fun q2 => ?_) (fun q2 => ?_) | refine iteW_of (fun q2 => ?_) (fun q2 => ?_)
  · simp (disch := omega) only [go_sem]
    exact W_retC c6_ok rfl (Conv.drop _ hσ) ⟨rfl, -1, rfl, by omega, by omega, fun h => by omega⟩
  simp (disch := omega) only [g1, e2, go_sem]
  refine SRun.callQ (szIntS_ok (es := 1) (xs := ints n.origins) ⟨by omega, by omega⟩ (by rw [ints_len]; exact hn.origins)) ⟨[], rfl, rfl⟩ rfl ?_
  rintro r s ⟨rfl, x3, rfl, h3, h3', k3⟩
  simp (disch := omega) only [go_sem]
  first | refine iteW_dec (fun q3 => ?_) (fun q3 => ?_) | refine iteW_of (fun q3 => ?_) (fun q3 => ?_)
  · simp (disch := omega) only [go_sem]
    exact W_retC c6_ok rfl (Conv.drop _ hσ) ⟨rfl, -1, rfl, by omega, by omega, fun h => by omega⟩
  simp (disch := omega) only [g1, e3, go_sem]
  refine SRun.callQ (szIntS_ok (es := 1) (xs := ints n.externals) ⟨by omega, by omega⟩ (by rw [ints_len]; exact hn.externals)) ⟨[], rfl, rfl⟩ rfl ?_
  rintro r s ⟨rfl, x4, rfl, h4, h4', k4⟩
  simp (disch := omega) only [go_sem]
  first | refine iteW_dec (fun q4 => ?_) (fun q4 => ?_) | refine iteW_of (fun q4 => ?_) (fun q4 => ?_)
  · simp (disch := omega) only [go_sem]
    exact W_retC c6_ok rfl (Conv.drop _ hσ) ⟨rfl, -1, rfl, by omega, by omega, fun h => by omega⟩
  simp (disch := omega) only [g1, e4, go_sem]
  refine SRun.callQ (szImportS_ok (es := 5) (xs := impsV n.imports) ⟨by omega, by omega⟩ (by rw [impsV_len]; exact hn.imports)) ⟨[], rfl, rfl⟩ rfl ?_
  rintro r s ⟨rfl, x5, rfl, h5, h5', k5⟩
  simp (disch := omega) only [go_sem]
  first | refine iteW_dec (fun q5 => ?_) (fun q5 => ?_) | refine iteW_of (fun q5 => ?_) (fun q5 => ?_)
  · simp (disch := omega) only [go_sem]
    exact W_retC c6_ok rfl (Conv.drop _ hσ) ⟨rfl, -1, rfl, by omega, by omega, fun h => by omega⟩
  simp (disch := omega) only [g1, e5, go_sem]
  refine SRun.callQ (szFilterS_ok (es := 4) (xs := filsV n.filters) ⟨by omega, by omega⟩ (by rw [filsV_len]; exact hn.filters)) ⟨[], rfl, rfl⟩ rfl ?_
  rintro r s ⟨rfl, x6, rfl, h6, h6', k6⟩
  simp (disch := omega) only [go_sem]
  first | refine iteW_dec (fun q6 => ?_) (fun q6 => ?_) | refine iteW_of (fun q6 => ?_) (fun q6 => ?_)
  · simp (disch := omega) only [go_sem]
    exact W_retC c6_ok rfl (Conv.drop _ hσ) ⟨rfl, -1, rfl, by omega, by omega, fun h => by omega⟩
  simp (disch := omega) only [go_sem]
  refine W_retC c6_ok rfl (Conv.drop _ hσ) ⟨rfl, x6, rfl, by omega, by omega, fun h => ?_⟩
  rw [linksV_len] at k2
  rw [ints_len] at k3 k4
  rw [impsV_len] at k5
  rw [filsV_len] at k6
  have j1 := k1 (by omega)
  exact ⟨j1.1, j1.2, k2 (by omega), k3 (by omega), k4 (by omega), k5 (by omega), k6 (by omega)⟩
end
section
attribute [local irreducible] SRun DS DRun
variable {Γ : St} {σ σ0 : St}
theorem flat_app (xs ys : List V) : flat (xs ++ ys) = flat xs ++ flat ys := by simp [flat]
theorem sets_at {a b : List V} : ∀ {z c : List V}, z.length = c.length → sets (a ++ (z ++ b)) a.length c = a ++ (c ++ b) := by
  intro z c
  induction c generalizing a z with
  | nil => intro h; have : z = [] := List.eq_nil_of_length_eq_zero h; subst this; rfl
  | cons x r ih =>
    intro h
    cases z with
    | nil => cases h
    | cons y q =>
      have h' : q.length = r.length := by simpa using h
      have e1 : (a ++ ((y :: q) ++ b)).set a.length x = (a ++ [x]) ++ (q ++ b) := by
        rw [List.set_append_right _ _ (Nat.le_refl _), Nat.sub_self]; simp
      show sets ((a ++ ((y :: q) ++ b)).set a.length x) (a.length + 1) r = _
      rw [e1, show a.length + 1 = (a ++ [x]).length by simp, ih h']
      simp
/-- A row that is filled: the first i are there, the rest is as it was made. -/
def partR (z : List V) (xs : List V) (N i : Nat) : List V := flat (xs.take i) ++ (List.replicate (N - i) z).flatten
theorem partR_zero (z : List V) (xs : List V) (N : Nat) : partR z xs N 0 = (List.replicate N z).flatten := by simp [partR, flat]
theorem partR_all {z : List V} {xs : List V} {N : Nat} (h : xs.length = N) : partR z xs N N = flat xs := by
  unfold partR; rw [List.take_of_length_le (by omega)]; simp
theorem flat_len {xs : List V} {es : Nat} (h : ∀ x ∈ xs, x.cells.length = es) : (flat xs).length = xs.length * es := flat_length h
theorem repl_len (z : List V) (k : Nat) : (List.replicate k z).flatten.length = k * z.length := by
  induction k with
  | zero => simp
  | succ k ih => rw [List.replicate_succ, List.flatten_cons, List.length_append, ih, Nat.succ_mul, Nat.add_comm]
theorem partR_len {z : List V} {xs : List V} {N i es : Nat} (h : ∀ x ∈ xs, x.cells.length = es) (hz : z.length = es) (hl : xs.length = N) (hi : i ≤ N) : (partR z xs N i).length = N * es := by
  unfold partR
  rw [List.length_append, flat_len (fun x hx => h x (List.mem_of_mem_take hx)), repl_len, hz, List.length_take, Nat.min_eq_left (by omega), ← Nat.add_mul, Nat.add_sub_cancel' hi]
theorem partR_set {z : List V} {xs : List V} {N i es : Nat} {x : V} (h : ∀ x ∈ xs, x.cells.length = es) (hz : z.length = es) (hl : xs.length = N) (hx : xs[i]? = some x) : sets (partR z xs N i) (i * es) x.cells = partR z xs N (i + 1) := by
  have hi : i < xs.length := (List.getElem?_eq_some_iff.1 hx).1
  have hxi : xs[i] = x := (List.getElem?_eq_some_iff.1 hx).2
  have e1 : (flat (xs.take i)).length = i * es := by
    rw [flat_len (fun x hx => h x (List.mem_of_mem_take hx)), List.length_take, Nat.min_eq_left (by omega)]
  have hxc : x.cells.length = es := h x (by rw [← hxi]; exact List.getElem_mem hi)
  have e2 : N - i = (N - (i + 1)) + 1 := by omega
  unfold partR
  rw [e2, List.replicate_succ, List.flatten_cons, ← e1, sets_at (by omega), List.take_add_one, hx]
  simp only [Option.toList, flat_app]
  rw [show flat [x] = x.cells by simp [flat]]
  simp
/-- A row that is filled to its end is the slice. -/
theorem conv_part {z : List V} {xs : List V} {N es b : Nat} {s : St} (h : ∀ x ∈ xs, x.cells.length = es ∧ ∀ c ∈ x.cells, c.one = true) (hl : xs.length = N) (hb : s b = none) :
    Conv (upd s b (partR z xs N N)) (.msl b es 0 N N) s (.isl false es xs) := by
  rw [partR_all hl]
  have ho : OwnL s es xs (.msl b es 0 N N) (upd s b (flat xs)) := ⟨.inr ⟨b, N, hb, by rw [hl], rfl, flat_len (fun x hx => (h x hx).1), by omega⟩, h⟩
  exact ho.conv
theorem one_cell {xs : List V} (h : ∀ x ∈ xs, x.one = true) : ∀ x ∈ xs, x.cells.length = 1 ∧ ∀ c ∈ x.cells, c.one = true := by
  intro x hx
  have h1 := h x hx
  have : x.cells = [x] := by cases x <;> first | rfl | (simp [V.one] at h1)
  rw [this]
  exact ⟨rfl, by simpa using h1⟩
theorem toIntS_ok {ex : Bool} {xs : List (Int)} (h1 : xs.length ≤ 1048576) : Ret Tryz.prog Γ 32 [.isl ex 1 (ints xs)] σ (.isl false 1 (ints xs)) σ := by
  have hc : ∀ x ∈ ints xs, x.cells.length = 1 ∧ ∀ c ∈ x.cells, c.one = true := one_cell (fun x hx => by obtain ⟨y, _, rfl⟩ := List.mem_map.1 hx; rfl)
  have hc1 := fun x hx => (hc x hx).1
  have hl : (ints xs).length = xs.length := ints_len xs
  refine ret_of c32_ok rfl ?_
  simp (disch := omega) only [c32, go_sem]
  refine SRun.mkslR (n' := xs.length) (m := xs.length) rfl rfl rfl (Nat.le_refl _) (by omega) (by omega) ?_
  intro b hb
  simp (disch := omega) only [go_sem]
  refine W_loopC (α := Nat) (fun i => i ≤ xs.length) (fun i => [(0, .isl ex 1 (ints xs)), (3, .msl b 1 0 xs.length xs.length), (4, .int .i64 (i : Nat))]) (fun i => upd σ b (partR [V.int .i64 0] (ints xs) xs.length i)) (fun i => xs.length - i) 0 (by omega) (by simp (disch := omega) only [subT, Int.natCast_add, Int.cast_ofNat_Int, go_sem] <;> (repeat' apply And.intro) <;> first | rfl | (congr 1; omega) | assumption) (by rw [partR_zero]) ?_
  intro i hi ih
  have hpl := partR_len (z := [V.int .i64 0]) hc1 rfl hl hi
  have g1 := upd_same σ b (partR [V.int .i64 0] (ints xs) xs.length i)
  simp (disch := omega) only [go_sem]
  first | refine iteW_dec (fun hq => ?_) (fun hq => ?_) | refine iteW_of (fun hq => ?_) (fun hq => ?_)
  · simp (disch := omega) only [g1, hpl, go_sem]
    have hx : (ints xs)[i]? = some (V.int .i64 (xs.getD i 0)) := by
      rw [ints, List.getElem?_map, List.getElem?_eq_getElem (by omega)]; simp [List.getD, show i < xs.length by omega]
    have hs : (partR [V.int .i64 0] (ints xs) xs.length i).set i (V.int .i64 (xs.getD i 0)) = partR [V.int .i64 0] (ints xs) xs.length (i + 1) := by
      have := partR_set (z := [V.int .i64 0]) hc1 rfl hl hx
      rw [Nat.mul_one] at this
      exact this
    rw [hs]
    exact ih (i + 1) _ _ (by omega) (by omega) (by simp (disch := omega) only [subT, Int.natCast_add, Int.cast_ofNat_Int, go_sem] <;> (repeat' apply And.intro) <;> first | rfl | (congr 1; omega) | assumption) rfl
  · obtain rfl : i = xs.length := by omega
    simp (disch := omega) only [go_sem]
    exact W_retC c32_ok rfl (conv_part hc hl hb) ⟨rfl, rfl⟩
theorem toStringS_ok {ex : Bool} {xs : List (List UInt8)} (h1 : xs.length ≤ 1048576) : Ret Tryz.prog Γ 30 [.isl ex 1 (strsV xs)] σ (.isl false 1 (strsV xs)) σ := by
  have hc : ∀ x ∈ strsV xs, x.cells.length = 1 ∧ ∀ c ∈ x.cells, c.one = true := one_cell (fun x hx => by obtain ⟨y, _, rfl⟩ := List.mem_map.1 hx; rfl)
  have hc1 := fun x hx => (hc x hx).1
  have hl : (strsV xs).length = xs.length := strsV_len xs
  refine ret_of c30_ok rfl ?_
  simp (disch := omega) only [c30, go_sem]
  refine SRun.mkslR (n' := xs.length) (m := xs.length) rfl rfl rfl (Nat.le_refl _) (by omega) (by omega) ?_
  intro b hb
  simp (disch := omega) only [go_sem]
  refine W_loopC (α := Nat) (fun i => i ≤ xs.length) (fun i => [(0, .isl ex 1 (strsV xs)), (3, .msl b 1 0 xs.length xs.length), (4, .int .i64 (i : Nat))]) (fun i => upd σ b (partR [V.str []] (strsV xs) xs.length i)) (fun i => xs.length - i) 0 (by omega) (by simp (disch := omega) only [subT, Int.natCast_add, Int.cast_ofNat_Int, go_sem] <;> (repeat' apply And.intro) <;> first | rfl | (congr 1; omega) | assumption) (by rw [partR_zero]) ?_
  intro i hi ih
  have hpl := partR_len (z := [V.str []]) hc1 rfl hl hi
  have g1 := upd_same σ b (partR [V.str []] (strsV xs) xs.length i)
  simp (disch := omega) only [go_sem]
  first | refine iteW_dec (fun hq => ?_) (fun hq => ?_) | refine iteW_of (fun hq => ?_) (fun hq => ?_)
  · simp (disch := omega) only [g1, hpl, go_sem]
    have hx : (strsV xs)[i]? = some (V.str (xs.getD i [])) := by
      rw [strsV, List.getElem?_map, List.getElem?_eq_getElem (by omega)]; simp [List.getD, show i < xs.length by omega]
    have hs : (partR [V.str []] (strsV xs) xs.length i).set i (V.str (xs.getD i [])) = partR [V.str []] (strsV xs) xs.length (i + 1) := by
      have := partR_set (z := [V.str []]) hc1 rfl hl hx
      rw [Nat.mul_one] at this
      exact this
    rw [hs]
    exact ih (i + 1) _ _ (by omega) (by omega) (by simp (disch := omega) only [subT, Int.natCast_add, Int.cast_ofNat_Int, go_sem] <;> (repeat' apply And.intro) <;> first | rfl | (congr 1; omega) | assumption) rfl
  · obtain rfl : i = xs.length := by omega
    simp (disch := omega) only [go_sem]
    exact W_retC c30_ok rfl (conv_part hc hl hb) ⟨rfl, rfl⟩
theorem toLink_ok {x : Link} : Ret Tryz.prog Γ 61 [.agg (linkC x)] σ (.agg (linkC x)) σ := by
  have hone : ∀ c ∈ (V.agg (linkC x)).cells, c.one = true := by simp [linkC, V.cells, V.one]
  refine ret_of c61_ok rfl ?_
  simp (disch := omega) only [c61, go_sem]
  refine SRun.boxR hone ?_
  intro b1 hb1
  have g1 := upd_same σ b1 (linkC x)
  have hσ : ∀ d y, σ d = some y → upd σ b1 (linkC x) d = some y := le_upd hb1
  simp (disch := omega) only [go_sem]
  generalize upd σ b1 (linkC x) = s1 at *
  refine SRun.allocR ?_
  intro b2 hb2
  have g1' := le_upd (cs := [.int .i64 0, .int .i64 0, .int .i64 0]) hb2 _ _ g1
  have g2 := upd_same s1 b2 [.int .i64 0, .int .i64 0, .int .i64 0]
  have hσ2 : ∀ d y, σ d = some y → upd s1 b2 [.int .i64 0, .int .i64 0, .int .i64 0] d = some y := fun d y h => le_upd hb2 _ _ (hσ d y h)
  simp (disch := omega) only [go_sem]
  generalize upd s1 b2 [.int .i64 0, .int .i64 0, .int .i64 0] = s2 at *
  refine SRun.allocR ?_
  intro b3 hb3
  have n31 : b3 ≠ b1 := fun e => by subst e; rw [g1'] at hb3; cases hb3
  have n32 : b3 ≠ b2 := fun e => by subst e; rw [g2] at hb3; cases hb3
  have f1 : ∀ c, upd s2 b3 c b1 = some (linkC x) := fun c => by rw [upd_ne _ _ n31.symm]; exact g1'
  have f2 : ∀ c, upd s2 b3 c b2 = some [.int .i64 0, .int .i64 0, .int .i64 0] := fun c => by rw [upd_ne _ _ n32.symm]; exact g2
  simp (disch := omega) only [f1, f2, linkC, go_sem]
  refine W_retC c61_ok (resV_cellA rfl (upd_same _ _ _) rfl) (Conv.drop _ fun d y hd => ?_) ⟨rfl, rfl⟩
  have hd2 : d ≠ b2 := fun e => by subst e; rw [hσ d y hd] at hb2; cases hb2
  have hd3 : d ≠ b3 := fun e => by subst e; rw [hσ2 d y hd] at hb3; cases hb3
  rw [upd_ne _ _ hd2, upd_ne _ _ hd3]
  exact hσ2 d y hd
theorem toLinkS_ok {ex : Bool} {xs : List (Link)} (h1 : xs.length ≤ 1048576) : Ret Tryz.prog Γ 31 [.isl ex 3 (linksV xs)] σ (.isl false 3 (linksV xs)) σ := by
  have hc : ∀ x ∈ linksV xs, x.cells.length = 3 ∧ ∀ c ∈ x.cells, c.one = true := fun x hx => by obtain ⟨y, _, rfl⟩ := List.mem_map.1 hx; simp [linkC, V.cells, V.one]
  have hc1 := fun x hx => (hc x hx).1
  have hl : (linksV xs).length = xs.length := linksV_len xs
  refine ret_of c31_ok rfl ?_
  simp (disch := omega) only [c31, go_sem]
  refine SRun.mkslR (n' := xs.length) (m := xs.length) rfl rfl rfl (Nat.le_refl _) (by omega) (by omega) ?_
  intro b hb
  simp (disch := omega) only [go_sem]
  refine W_loopC (α := Nat) (fun i => i ≤ xs.length) (fun i => [(0, .isl ex 3 (linksV xs)), (3, .msl b 3 0 xs.length xs.length), (4, .int .i64 (i : Nat))]) (fun i => upd σ b (partR [.int .i64 0, .int .i64 0, .int .i64 0] (linksV xs) xs.length i)) (fun i => xs.length - i) 0 (by omega) (by simp (disch := omega) only [subT, Int.natCast_add, Int.cast_ofNat_Int, go_sem] <;> (repeat' apply And.intro) <;> first | rfl | (congr 1; omega) | assumption) (by rw [partR_zero]) ?_
  intro i hi ih
  have hpl := partR_len (z := [.int .i64 0, .int .i64 0, .int .i64 0]) hc1 rfl hl hi
  have g1 := upd_same σ b (partR [.int .i64 0, .int .i64 0, .int .i64 0] (linksV xs) xs.length i)
  simp (disch := omega) only [go_sem]
  first | refine iteW_dec (fun hq => ?_) (fun hq => ?_) | refine iteW_of (fun hq => ?_) (fun hq => ?_)
  · have htk : (linkC (xs.getD i default)).take 3 = linkC (xs.getD i default) := rfl
    have hln : (linkC (xs.getD i default)).length = 3 := rfl
    have hone : (∀ c, c ∈ linkC (xs.getD i default) → c.one = true) = True := eq_true (by simp [linkC, V.one])
    simp (disch := omega) only [htk, hln, go_sem]
    refine SRun.callR (toLink_ok) ⟨[], rfl, rfl⟩ rfl ?_
    simp (disch := omega) only [List.getD_cons_zero, List.getD_cons_succ, go_sem]
    simp (disch := omega) only [g1, hpl, hln, hone, go_sem]
    have hx : (linksV xs)[i]? = some (.agg (linkC (xs.getD i default))) := by
      rw [linksV, List.getElem?_map, List.getElem?_eq_getElem (by omega)]; simp [List.getD, show i < xs.length by omega]
    have hs : sets (partR [.int .i64 0, .int .i64 0, .int .i64 0] (linksV xs) xs.length i) (i * 3) (linkC (xs.getD i default)) = partR [.int .i64 0, .int .i64 0, .int .i64 0] (linksV xs) xs.length (i + 1) := partR_set (z := [.int .i64 0, .int .i64 0, .int .i64 0]) hc1 rfl hl hx
    rw [hs]
    exact ih (i + 1) _ _ (by omega) (by omega) (by simp (disch := omega) only [subT, Int.natCast_add, Int.cast_ofNat_Int, go_sem] <;> (repeat' apply And.intro) <;> first | rfl | (congr 1; omega) | assumption) rfl
  · obtain rfl : i = xs.length := by omega
    simp (disch := omega) only [go_sem]
    exact W_retC c31_ok rfl (conv_part hc hl hb) ⟨rfl, rfl⟩
theorem toImport_ok {x : Imp} : Ret Tryz.prog Γ 62 [.agg (impC x)] σ (.agg (impC x)) σ := by
  have hone : ∀ c ∈ (V.agg (impC x)).cells, c.one = true := by simp [impC, V.cells, V.one]
  refine ret_of c62_ok rfl ?_
  simp (disch := omega) only [c62, go_sem]
  refine SRun.boxR hone ?_
  intro b1 hb1
  have g1 := upd_same σ b1 (impC x)
  have hσ : ∀ d y, σ d = some y → upd σ b1 (impC x) d = some y := le_upd hb1
  simp (disch := omega) only [go_sem]
  generalize upd σ b1 (impC x) = s1 at *
  refine SRun.allocR ?_
  intro b2 hb2
  have g1' := le_upd (cs := [.int .i64 0, .int .i64 0, .int .i64 0, .int .i64 0, .int .i64 0]) hb2 _ _ g1
  have g2 := upd_same s1 b2 [.int .i64 0, .int .i64 0, .int .i64 0, .int .i64 0, .int .i64 0]
  have hσ2 : ∀ d y, σ d = some y → upd s1 b2 [.int .i64 0, .int .i64 0, .int .i64 0, .int .i64 0, .int .i64 0] d = some y := fun d y h => le_upd hb2 _ _ (hσ d y h)
  simp (disch := omega) only [go_sem]
  generalize upd s1 b2 [.int .i64 0, .int .i64 0, .int .i64 0, .int .i64 0, .int .i64 0] = s2 at *
  refine SRun.allocR ?_
  intro b3 hb3
  have n31 : b3 ≠ b1 := fun e => by subst e; rw [g1'] at hb3; cases hb3
  have n32 : b3 ≠ b2 := fun e => by subst e; rw [g2] at hb3; cases hb3
  have f1 : ∀ c, upd s2 b3 c b1 = some (impC x) := fun c => by rw [upd_ne _ _ n31.symm]; exact g1'
  have f2 : ∀ c, upd s2 b3 c b2 = some [.int .i64 0, .int .i64 0, .int .i64 0, .int .i64 0, .int .i64 0] := fun c => by rw [upd_ne _ _ n32.symm]; exact g2
  simp (disch := omega) only [f1, f2, impC, go_sem]
  refine W_retC c62_ok (resV_cellA rfl (upd_same _ _ _) rfl) (Conv.drop _ fun d y hd => ?_) ⟨rfl, rfl⟩
  have hd2 : d ≠ b2 := fun e => by subst e; rw [hσ d y hd] at hb2; cases hb2
  have hd3 : d ≠ b3 := fun e => by subst e; rw [hσ2 d y hd] at hb3; cases hb3
  rw [upd_ne _ _ hd2, upd_ne _ _ hd3]
  exact hσ2 d y hd
theorem toImportS_ok {ex : Bool} {xs : List (Imp)} (h1 : xs.length ≤ 1048576) : Ret Tryz.prog Γ 33 [.isl ex 5 (impsV xs)] σ (.isl false 5 (impsV xs)) σ := by
  have hc : ∀ x ∈ impsV xs, x.cells.length = 5 ∧ ∀ c ∈ x.cells, c.one = true := fun x hx => by obtain ⟨y, _, rfl⟩ := List.mem_map.1 hx; simp [impC, V.cells, V.one]
  have hc1 := fun x hx => (hc x hx).1
  have hl : (impsV xs).length = xs.length := impsV_len xs
  refine ret_of c33_ok rfl ?_
  simp (disch := omega) only [c33, go_sem]
  refine SRun.mkslR (n' := xs.length) (m := xs.length) rfl rfl rfl (Nat.le_refl _) (by omega) (by omega) ?_
  intro b hb
  simp (disch := omega) only [go_sem]
  refine W_loopC (α := Nat) (fun i => i ≤ xs.length) (fun i => [(0, .isl ex 5 (impsV xs)), (3, .msl b 5 0 xs.length xs.length), (4, .int .i64 (i : Nat))]) (fun i => upd σ b (partR [.int .i64 0, .int .i64 0, .int .i64 0, .int .i64 0, .int .i64 0] (impsV xs) xs.length i)) (fun i => xs.length - i) 0 (by omega) (by simp (disch := omega) only [subT, Int.natCast_add, Int.cast_ofNat_Int, go_sem] <;> (repeat' apply And.intro) <;> first | rfl | (congr 1; omega) | assumption) (by rw [partR_zero]) ?_
  intro i hi ih
  have hpl := partR_len (z := [.int .i64 0, .int .i64 0, .int .i64 0, .int .i64 0, .int .i64 0]) hc1 rfl hl hi
  have g1 := upd_same σ b (partR [.int .i64 0, .int .i64 0, .int .i64 0, .int .i64 0, .int .i64 0] (impsV xs) xs.length i)
  simp (disch := omega) only [go_sem]
  first | refine iteW_dec (fun hq => ?_) (fun hq => ?_) | refine iteW_of (fun hq => ?_) (fun hq => ?_)
  · have htk : (impC (xs.getD i default)).take 5 = impC (xs.getD i default) := rfl
    have hln : (impC (xs.getD i default)).length = 5 := rfl
    have hone : (∀ c, c ∈ impC (xs.getD i default) → c.one = true) = True := eq_true (by simp [impC, V.one])
    simp (disch := omega) only [htk, hln, go_sem]
    refine SRun.callR (toImport_ok) ⟨[], rfl, rfl⟩ rfl ?_
    simp (disch := omega) only [List.getD_cons_zero, List.getD_cons_succ, go_sem]
    simp (disch := omega) only [g1, hpl, hln, hone, go_sem]
    have hx : (impsV xs)[i]? = some (.agg (impC (xs.getD i default))) := by
      rw [impsV, List.getElem?_map, List.getElem?_eq_getElem (by omega)]; simp [List.getD, show i < xs.length by omega]
    have hs : sets (partR [.int .i64 0, .int .i64 0, .int .i64 0, .int .i64 0, .int .i64 0] (impsV xs) xs.length i) (i * 5) (impC (xs.getD i default)) = partR [.int .i64 0, .int .i64 0, .int .i64 0, .int .i64 0, .int .i64 0] (impsV xs) xs.length (i + 1) := partR_set (z := [.int .i64 0, .int .i64 0, .int .i64 0, .int .i64 0, .int .i64 0]) hc1 rfl hl hx
    rw [hs]
    exact ih (i + 1) _ _ (by omega) (by omega) (by simp (disch := omega) only [subT, Int.natCast_add, Int.cast_ofNat_Int, go_sem] <;> (repeat' apply And.intro) <;> first | rfl | (congr 1; omega) | assumption) rfl
  · obtain rfl : i = xs.length := by omega
    simp (disch := omega) only [go_sem]
    exact W_retC c33_ok rfl (conv_part hc hl hb) ⟨rfl, rfl⟩
theorem toFilter_ok {x : Fil} : Ret Tryz.prog Γ 63 [.agg (filC x)] σ (.agg (filC x)) σ := by
  have hone : ∀ c ∈ (V.agg (filC x)).cells, c.one = true := by simp [filC, V.cells, V.one]
  refine ret_of c63_ok rfl ?_
  simp (disch := omega) only [c63, go_sem]
  refine SRun.boxR hone ?_
  intro b1 hb1
  have g1 := upd_same σ b1 (filC x)
  have hσ : ∀ d y, σ d = some y → upd σ b1 (filC x) d = some y := le_upd hb1
  simp (disch := omega) only [go_sem]
  generalize upd σ b1 (filC x) = s1 at *
  refine SRun.allocR ?_
  intro b2 hb2
  have g1' := le_upd (cs := [.int .i64 0, .int .i64 0, .int .i64 0, .int .i64 0]) hb2 _ _ g1
  have g2 := upd_same s1 b2 [.int .i64 0, .int .i64 0, .int .i64 0, .int .i64 0]
  have hσ2 : ∀ d y, σ d = some y → upd s1 b2 [.int .i64 0, .int .i64 0, .int .i64 0, .int .i64 0] d = some y := fun d y h => le_upd hb2 _ _ (hσ d y h)
  simp (disch := omega) only [go_sem]
  generalize upd s1 b2 [.int .i64 0, .int .i64 0, .int .i64 0, .int .i64 0] = s2 at *
  refine SRun.allocR ?_
  intro b3 hb3
  have n31 : b3 ≠ b1 := fun e => by subst e; rw [g1'] at hb3; cases hb3
  have n32 : b3 ≠ b2 := fun e => by subst e; rw [g2] at hb3; cases hb3
  have f1 : ∀ c, upd s2 b3 c b1 = some (filC x) := fun c => by rw [upd_ne _ _ n31.symm]; exact g1'
  have f2 : ∀ c, upd s2 b3 c b2 = some [.int .i64 0, .int .i64 0, .int .i64 0, .int .i64 0] := fun c => by rw [upd_ne _ _ n32.symm]; exact g2
  simp (disch := omega) only [f1, f2, filC, go_sem]
  refine W_retC c63_ok (resV_cellA rfl (upd_same _ _ _) rfl) (Conv.drop _ fun d y hd => ?_) ⟨rfl, rfl⟩
  have hd2 : d ≠ b2 := fun e => by subst e; rw [hσ d y hd] at hb2; cases hb2
  have hd3 : d ≠ b3 := fun e => by subst e; rw [hσ2 d y hd] at hb3; cases hb3
  rw [upd_ne _ _ hd2, upd_ne _ _ hd3]
  exact hσ2 d y hd
theorem toFilterS_ok {ex : Bool} {xs : List (Fil)} (h1 : xs.length ≤ 1048576) : Ret Tryz.prog Γ 34 [.isl ex 4 (filsV xs)] σ (.isl false 4 (filsV xs)) σ := by
  have hc : ∀ x ∈ filsV xs, x.cells.length = 4 ∧ ∀ c ∈ x.cells, c.one = true := fun x hx => by obtain ⟨y, _, rfl⟩ := List.mem_map.1 hx; simp [filC, V.cells, V.one]
  have hc1 := fun x hx => (hc x hx).1
  have hl : (filsV xs).length = xs.length := filsV_len xs
  refine ret_of c34_ok rfl ?_
  simp (disch := omega) only [c34, go_sem]
  refine SRun.mkslR (n' := xs.length) (m := xs.length) rfl rfl rfl (Nat.le_refl _) (by omega) (by omega) ?_
  intro b hb
  simp (disch := omega) only [go_sem]
  refine W_loopC (α := Nat) (fun i => i ≤ xs.length) (fun i => [(0, .isl ex 4 (filsV xs)), (3, .msl b 4 0 xs.length xs.length), (4, .int .i64 (i : Nat))]) (fun i => upd σ b (partR [.int .i64 0, .int .i64 0, .int .i64 0, .int .i64 0] (filsV xs) xs.length i)) (fun i => xs.length - i) 0 (by omega) (by simp (disch := omega) only [subT, Int.natCast_add, Int.cast_ofNat_Int, go_sem] <;> (repeat' apply And.intro) <;> first | rfl | (congr 1; omega) | assumption) (by rw [partR_zero]) ?_
  intro i hi ih
  have hpl := partR_len (z := [.int .i64 0, .int .i64 0, .int .i64 0, .int .i64 0]) hc1 rfl hl hi
  have g1 := upd_same σ b (partR [.int .i64 0, .int .i64 0, .int .i64 0, .int .i64 0] (filsV xs) xs.length i)
  simp (disch := omega) only [go_sem]
  first | refine iteW_dec (fun hq => ?_) (fun hq => ?_) | refine iteW_of (fun hq => ?_) (fun hq => ?_)
  · have htk : (filC (xs.getD i default)).take 4 = filC (xs.getD i default) := rfl
    have hln : (filC (xs.getD i default)).length = 4 := rfl
    have hone : (∀ c, c ∈ filC (xs.getD i default) → c.one = true) = True := eq_true (by simp [filC, V.one])
    simp (disch := omega) only [htk, hln, go_sem]
    refine SRun.callR (toFilter_ok) ⟨[], rfl, rfl⟩ rfl ?_
    simp (disch := omega) only [List.getD_cons_zero, List.getD_cons_succ, go_sem]
    simp (disch := omega) only [g1, hpl, hln, hone, go_sem]
    have hx : (filsV xs)[i]? = some (.agg (filC (xs.getD i default))) := by
      rw [filsV, List.getElem?_map, List.getElem?_eq_getElem (by omega)]; simp [List.getD, show i < xs.length by omega]
    have hs : sets (partR [.int .i64 0, .int .i64 0, .int .i64 0, .int .i64 0] (filsV xs) xs.length i) (i * 4) (filC (xs.getD i default)) = partR [.int .i64 0, .int .i64 0, .int .i64 0, .int .i64 0] (filsV xs) xs.length (i + 1) := partR_set (z := [.int .i64 0, .int .i64 0, .int .i64 0, .int .i64 0]) hc1 rfl hl hx
    rw [hs]
    exact ih (i + 1) _ _ (by omega) (by omega) (by simp (disch := omega) only [subT, Int.natCast_add, Int.cast_ofNat_Int, go_sem] <;> (repeat' apply And.intro) <;> first | rfl | (congr 1; omega) | assumption) rfl
  · obtain rfl : i = xs.length := by omega
    simp (disch := omega) only [go_sem]
    exact W_retC c34_ok rfl (conv_part hc hl hb) ⟨rfl, rfl⟩
theorem toNet_ok {n : Net} (hn : NetFew n) : Ret Tryz.prog Γ 8 [netV n] σ (netV n) σ := by
  have e0 : (netC n)[0]? = some (.isl false 1 (strsV n.routers)) := rfl
  have e1 : (netC n)[1]? = some (.isl false 3 (linksV n.links)) := rfl
  have e2 : (netC n)[2]? = some (.isl false 1 (ints n.origins)) := rfl
  have e3 : (netC n)[3]? = some (.isl false 1 (ints n.externals)) := rfl
  have e4 : (netC n)[4]? = some (.isl false 5 (impsV n.imports)) := rfl
  have e5 : (netC n)[5]? = some (.isl false 4 (filsV n.filters)) := rfl
  refine ret_of c8_ok rfl ?_
  simp (disch := omega) only [c8, netV, go_sem]
  refine SRun.boxR (net_one n) ?_
  intro b1 hb1
  have g1 := upd_same σ b1 (netC n)
  have hσ : ∀ d y, σ d = some y → upd σ b1 (netC n) d = some y := le_upd hb1
  simp (disch := omega) only [go_sem]
  generalize upd σ b1 (netC n) = s1 at *
  refine SRun.allocR ?_
  intro b2 hb2
  have g1' := le_upd (cs := [.isl true 0 [], .isl true 0 [], .isl true 0 [], .isl true 0 [], .isl true 0 [], .isl true 0 []]) hb2 _ _ g1
  have g2 := upd_same s1 b2 [.isl true 0 [], .isl true 0 [], .isl true 0 [], .isl true 0 [], .isl true 0 [], .isl true 0 []]
  have hσ2 : ∀ d y, σ d = some y → upd s1 b2 [.isl true 0 [], .isl true 0 [], .isl true 0 [], .isl true 0 [], .isl true 0 [], .isl true 0 []] d = some y := fun d y h => le_upd hb2 _ _ (hσ d y h)
  simp (disch := omega) only [go_sem]
  generalize upd s1 b2 [.isl true 0 [], .isl true 0 [], .isl true 0 [], .isl true 0 [], .isl true 0 [], .isl true 0 []] = s2 at *
  refine SRun.allocR ?_
  intro b3 hb3
  have n31 : b3 ≠ b1 := fun e => by subst e; rw [g1'] at hb3; cases hb3
  have n32 : b3 ≠ b2 := fun e => by subst e; rw [g2] at hb3; cases hb3
  have f1 : ∀ c, upd s2 b3 c b1 = some (netC n) := fun c => by rw [upd_ne _ _ n31.symm]; exact g1'
  have f2 : ∀ c, upd s2 b3 c b2 = some [.isl true 0 [], .isl true 0 [], .isl true 0 [], .isl true 0 [], .isl true 0 [], .isl true 0 []] := fun c => by rw [upd_ne _ _ n32.symm]; exact g2
  simp (disch := omega) only [f1, e0, go_sem]
  refine SRun.callR (toStringS_ok hn.routers) ⟨[], rfl, rfl⟩ rfl ?_
  simp (disch := omega) only [f1, e1, go_sem]
  refine SRun.callR (toLinkS_ok hn.links) ⟨[], rfl, rfl⟩ rfl ?_
  simp (disch := omega) only [f1, e2, go_sem]
  refine SRun.callR (toIntS_ok hn.origins) ⟨[], rfl, rfl⟩ rfl ?_
  simp (disch := omega) only [f1, e3, go_sem]
  refine SRun.callR (toIntS_ok hn.externals) ⟨[], rfl, rfl⟩ rfl ?_
  simp (disch := omega) only [f1, e4, go_sem]
  refine SRun.callR (toImportS_ok hn.imports) ⟨[], rfl, rfl⟩ rfl ?_
  simp (disch := omega) only [f1, e5, go_sem]
  refine SRun.callR (toFilterS_ok hn.filters) ⟨[], rfl, rfl⟩ rfl ?_
  simp (disch := omega) only [f2, go_sem]
  refine W_retC c8_ok (resV_cellA rfl (upd_same _ _ _) rfl) (Conv.drop _ fun d y hd => ?_) ⟨rfl, rfl⟩
  have hd2 : d ≠ b2 := fun e => by subst e; rw [hσ d y hd] at hb2; cases hb2
  have hd3 : d ≠ b3 := fun e => by subst e; rw [hσ2 d y hd] at hb3; cases hb3
  rw [upd_ne _ _ hd2, upd_ne _ _ hd3]
  exact hσ2 d y hd
end
section
attribute [local irreducible] SRun DS DRun
variable {Γ : St} {σ σ0 : St}
theorem dec_same {α : Type} [DecidableEq α] (a : α) : decide (a = a) = true := decide_eq_true rfl
theorem eqIntS_ok {ex ex2 : Bool} {xs : List Int} (h1 : xs.length ≤ 1048576) : Ret Tryz.prog Γ 40 [.isl ex 1 (ints xs), .isl ex2 1 (ints xs)] σ (.bool true) σ := by
  refine ret_of c40_ok rfl ?_
  simp (disch := omega) only [c40, dec_same, go_sem]
  refine W_loopC (α := Nat) (fun i => i ≤ xs.length) (fun i => [(0, .isl ex 1 (ints xs)), (1, .isl ex2 1 (ints xs)), (5, .int .i64 (i : Nat))]) (fun i => σ) (fun i => xs.length - i) 0 (by omega) (by simp (disch := omega) only [subT, Int.natCast_add, Int.cast_ofNat_Int, go_sem] <;> (repeat' apply And.intro) <;> first | rfl | (congr 1; omega) | assumption) rfl ?_
  intro i hi ih
  simp (disch := omega) only [go_sem]
  first | refine iteW_dec (fun hq => ?_) (fun hq => ?_) | refine iteW_of (fun hq => ?_) (fun hq => ?_)
  · simp (disch := omega) only [go_sem]
    refine W_drawW ?_
    simp (disch := omega) only [dec_same, go_sem]
    exact ih (i + 1) _ _ (by omega) (by omega) (by simp (disch := omega) only [subT, Int.natCast_add, Int.cast_ofNat_Int, go_sem] <;> (repeat' apply And.intro) <;> first | rfl | (congr 1; omega) | assumption) rfl
  · simp (disch := omega) only [go_sem]
    exact W_retR c40_ok rfl ⟨rfl, rfl⟩
theorem eqStringS_ok {ex ex2 : Bool} {xs : List (List UInt8)} (h1 : xs.length ≤ 1048576) : Ret Tryz.prog Γ 38 [.isl ex 1 (strsV xs), .isl ex2 1 (strsV xs)] σ (.bool true) σ := by
  refine ret_of c38_ok rfl ?_
  simp (disch := omega) only [c38, dec_same, go_sem]
  refine W_loopC (α := Nat) (fun i => i ≤ xs.length) (fun i => [(0, .isl ex 1 (strsV xs)), (1, .isl ex2 1 (strsV xs)), (5, .int .i64 (i : Nat))]) (fun i => σ) (fun i => xs.length - i) 0 (by omega) (by simp (disch := omega) only [subT, Int.natCast_add, Int.cast_ofNat_Int, go_sem] <;> (repeat' apply And.intro) <;> first | rfl | (congr 1; omega) | assumption) rfl ?_
  intro i hi ih
  have hb : ∀ s : List UInt8, (!(s == s)) = false := fun s => by simp
  have hb2 : ∀ s : List UInt8, (s != s) = false := fun s => by simp
  simp (disch := omega) only [go_sem]
  first | refine iteW_dec (fun hq => ?_) (fun hq => ?_) | refine iteW_of (fun hq => ?_) (fun hq => ?_)
  · simp (disch := omega) only [go_sem]
    refine W_drawW ?_
    simp (disch := omega) only [dec_same, hb, hb2, go_sem]
    exact ih (i + 1) _ _ (by omega) (by omega) (by simp (disch := omega) only [subT, Int.natCast_add, Int.cast_ofNat_Int, go_sem] <;> (repeat' apply And.intro) <;> first | rfl | (congr 1; omega) | assumption) rfl
  · simp (disch := omega) only [go_sem]
    exact W_retR c38_ok rfl ⟨rfl, rfl⟩
theorem eqLink_ok {x : Link} : Ret Tryz.prog Γ 82 [.agg (linkC x), .agg (linkC x)] σ (.bool true) σ := by
  have hone : ∀ c ∈ (V.agg (linkC x)).cells, c.one = true := by simp [linkC, V.cells, V.one]
  have hdef : linkC x = _ := rfl
  refine ret_of c82_ok rfl ?_
  simp (disch := omega) only [c82, go_sem]
  refine SRun.boxR hone ?_
  intro b1 hb1
  have g1 := upd_same σ b1 (linkC x)
  have hσ : ∀ d y, σ d = some y → upd σ b1 (linkC x) d = some y := le_upd hb1
  simp (disch := omega) only [go_sem]
  generalize upd σ b1 (linkC x) = s1 at *
  refine SRun.boxR hone ?_
  intro b2 hb2
  have f1 := le_upd (cs := linkC x) hb2 _ _ g1
  have f2 := upd_same s1 b2 (linkC x)
  have hσ2 : ∀ d y, σ d = some y → upd s1 b2 (linkC x) d = some y := fun d y h => le_upd hb2 _ _ (hσ d y h)
  simp (disch := omega) only [go_sem]
  generalize upd s1 b2 (linkC x) = s2 at *
  simp (disch := omega) only [f1, f2, dec_same, linkC, go_sem]
  exact W_retC c82_ok rfl (Conv.drop _ hσ2) ⟨rfl, rfl⟩
theorem eqLinkS_ok {ex ex2 : Bool} {xs : List Link} (h1 : xs.length ≤ 1048576) : Ret Tryz.prog Γ 39 [.isl ex 3 (linksV xs), .isl ex2 3 (linksV xs)] σ (.bool true) σ := by
  refine ret_of c39_ok rfl ?_
  simp (disch := omega) only [c39, dec_same, go_sem]
  refine W_loopC (α := Nat) (fun i => i ≤ xs.length) (fun i => [(0, .isl ex 3 (linksV xs)), (1, .isl ex2 3 (linksV xs)), (5, .int .i64 (i : Nat))]) (fun i => σ) (fun i => xs.length - i) 0 (by omega) (by simp (disch := omega) only [subT, Int.natCast_add, Int.cast_ofNat_Int, go_sem] <;> (repeat' apply And.intro) <;> first | rfl | (congr 1; omega) | assumption) rfl ?_
  intro i hi ih
  simp (disch := omega) only [go_sem]
  first | refine iteW_dec (fun hq => ?_) (fun hq => ?_) | refine iteW_of (fun hq => ?_) (fun hq => ?_)
  · have htk : (linkC (xs.getD i default)).take 3 = linkC (xs.getD i default) := rfl
    have hln : (linkC (xs.getD i default)).length = 3 := rfl
    simp (disch := omega) only [go_sem]
    refine W_drawW ?_
    simp (disch := omega) only [htk, hln, go_sem]
    refine DRun.callQ (eqLink_ok) ⟨[], rfl, rfl⟩ ?_
    rintro r s ⟨rfl, hs⟩
    obtain rfl := hs.symm
    simp (disch := omega) only [go_sem]
    exact ih (i + 1) _ _ (by omega) (by omega) (by simp (disch := omega) only [subT, Int.natCast_add, Int.cast_ofNat_Int, go_sem] <;> (repeat' apply And.intro) <;> first | rfl | (congr 1; omega) | assumption) rfl
  · simp (disch := omega) only [go_sem]
    exact W_retR c39_ok rfl ⟨rfl, rfl⟩
theorem eqImport_ok {x : Imp} : Ret Tryz.prog Γ 83 [.agg (impC x), .agg (impC x)] σ (.bool true) σ := by
  have hone : ∀ c ∈ (V.agg (impC x)).cells, c.one = true := by simp [impC, V.cells, V.one]
  have hdef : impC x = _ := rfl
  refine ret_of c83_ok rfl ?_
  simp (disch := omega) only [c83, go_sem]
  refine SRun.boxR hone ?_
  intro b1 hb1
  have g1 := upd_same σ b1 (impC x)
  have hσ : ∀ d y, σ d = some y → upd σ b1 (impC x) d = some y := le_upd hb1
  simp (disch := omega) only [go_sem]
  generalize upd σ b1 (impC x) = s1 at *
  refine SRun.boxR hone ?_
  intro b2 hb2
  have f1 := le_upd (cs := impC x) hb2 _ _ g1
  have f2 := upd_same s1 b2 (impC x)
  have hσ2 : ∀ d y, σ d = some y → upd s1 b2 (impC x) d = some y := fun d y h => le_upd hb2 _ _ (hσ d y h)
  simp (disch := omega) only [go_sem]
  generalize upd s1 b2 (impC x) = s2 at *
  simp (disch := omega) only [f1, f2, dec_same, impC, go_sem]
  exact W_retC c83_ok rfl (Conv.drop _ hσ2) ⟨rfl, rfl⟩
theorem eqImportS_ok {ex ex2 : Bool} {xs : List Imp} (h1 : xs.length ≤ 1048576) : Ret Tryz.prog Γ 41 [.isl ex 5 (impsV xs), .isl ex2 5 (impsV xs)] σ (.bool true) σ := by
  refine ret_of c41_ok rfl ?_
  simp (disch := omega) only [c41, dec_same, go_sem]
  refine W_loopC (α := Nat) (fun i => i ≤ xs.length) (fun i => [(0, .isl ex 5 (impsV xs)), (1, .isl ex2 5 (impsV xs)), (5, .int .i64 (i : Nat))]) (fun i => σ) (fun i => xs.length - i) 0 (by omega) (by simp (disch := omega) only [subT, Int.natCast_add, Int.cast_ofNat_Int, go_sem] <;> (repeat' apply And.intro) <;> first | rfl | (congr 1; omega) | assumption) rfl ?_
  intro i hi ih
  simp (disch := omega) only [go_sem]
  first | refine iteW_dec (fun hq => ?_) (fun hq => ?_) | refine iteW_of (fun hq => ?_) (fun hq => ?_)
  · have htk : (impC (xs.getD i default)).take 5 = impC (xs.getD i default) := rfl
    have hln : (impC (xs.getD i default)).length = 5 := rfl
    simp (disch := omega) only [go_sem]
    refine W_drawW ?_
    simp (disch := omega) only [htk, hln, go_sem]
    refine DRun.callQ (eqImport_ok) ⟨[], rfl, rfl⟩ ?_
    rintro r s ⟨rfl, hs⟩
    obtain rfl := hs.symm
    simp (disch := omega) only [go_sem]
    exact ih (i + 1) _ _ (by omega) (by omega) (by simp (disch := omega) only [subT, Int.natCast_add, Int.cast_ofNat_Int, go_sem] <;> (repeat' apply And.intro) <;> first | rfl | (congr 1; omega) | assumption) rfl
  · simp (disch := omega) only [go_sem]
    exact W_retR c41_ok rfl ⟨rfl, rfl⟩
theorem eqFilter_ok {x : Fil} : Ret Tryz.prog Γ 84 [.agg (filC x), .agg (filC x)] σ (.bool true) σ := by
  have hone : ∀ c ∈ (V.agg (filC x)).cells, c.one = true := by simp [filC, V.cells, V.one]
  have hdef : filC x = _ := rfl
  refine ret_of c84_ok rfl ?_
  simp (disch := omega) only [c84, go_sem]
  refine SRun.boxR hone ?_
  intro b1 hb1
  have g1 := upd_same σ b1 (filC x)
  have hσ : ∀ d y, σ d = some y → upd σ b1 (filC x) d = some y := le_upd hb1
  simp (disch := omega) only [go_sem]
  generalize upd σ b1 (filC x) = s1 at *
  refine SRun.boxR hone ?_
  intro b2 hb2
  have f1 := le_upd (cs := filC x) hb2 _ _ g1
  have f2 := upd_same s1 b2 (filC x)
  have hσ2 : ∀ d y, σ d = some y → upd s1 b2 (filC x) d = some y := fun d y h => le_upd hb2 _ _ (hσ d y h)
  simp (disch := omega) only [go_sem]
  generalize upd s1 b2 (filC x) = s2 at *
  simp (disch := omega) only [f1, f2, dec_same, filC, go_sem]
  exact W_retC c84_ok rfl (Conv.drop _ hσ2) ⟨rfl, rfl⟩
theorem eqFilterS_ok {ex ex2 : Bool} {xs : List Fil} (h1 : xs.length ≤ 1048576) : Ret Tryz.prog Γ 42 [.isl ex 4 (filsV xs), .isl ex2 4 (filsV xs)] σ (.bool true) σ := by
  refine ret_of c42_ok rfl ?_
  simp (disch := omega) only [c42, dec_same, go_sem]
  refine W_loopC (α := Nat) (fun i => i ≤ xs.length) (fun i => [(0, .isl ex 4 (filsV xs)), (1, .isl ex2 4 (filsV xs)), (5, .int .i64 (i : Nat))]) (fun i => σ) (fun i => xs.length - i) 0 (by omega) (by simp (disch := omega) only [subT, Int.natCast_add, Int.cast_ofNat_Int, go_sem] <;> (repeat' apply And.intro) <;> first | rfl | (congr 1; omega) | assumption) rfl ?_
  intro i hi ih
  simp (disch := omega) only [go_sem]
  first | refine iteW_dec (fun hq => ?_) (fun hq => ?_) | refine iteW_of (fun hq => ?_) (fun hq => ?_)
  · have htk : (filC (xs.getD i default)).take 4 = filC (xs.getD i default) := rfl
    have hln : (filC (xs.getD i default)).length = 4 := rfl
    simp (disch := omega) only [go_sem]
    refine W_drawW ?_
    simp (disch := omega) only [htk, hln, go_sem]
    refine DRun.callQ (eqFilter_ok) ⟨[], rfl, rfl⟩ ?_
    rintro r s ⟨rfl, hs⟩
    obtain rfl := hs.symm
    simp (disch := omega) only [go_sem]
    exact ih (i + 1) _ _ (by omega) (by omega) (by simp (disch := omega) only [subT, Int.natCast_add, Int.cast_ofNat_Int, go_sem] <;> (repeat' apply And.intro) <;> first | rfl | (congr 1; omega) | assumption) rfl
  · simp (disch := omega) only [go_sem]
    exact W_retR c42_ok rfl ⟨rfl, rfl⟩
theorem eqNet_ok {n : Net} (hn : NetFew n) : Ret Tryz.prog Γ 11 [netV n, netV n] σ (.bool true) σ := by
  have e0 : (netC n)[0]? = some (.isl false 1 (strsV n.routers)) := rfl
  have e1 : (netC n)[1]? = some (.isl false 3 (linksV n.links)) := rfl
  have e2 : (netC n)[2]? = some (.isl false 1 (ints n.origins)) := rfl
  have e3 : (netC n)[3]? = some (.isl false 1 (ints n.externals)) := rfl
  have e4 : (netC n)[4]? = some (.isl false 5 (impsV n.imports)) := rfl
  have e5 : (netC n)[5]? = some (.isl false 4 (filsV n.filters)) := rfl
  refine ret_of c11_ok rfl ?_
  simp (disch := omega) only [c11, netV, go_sem]
  refine SRun.boxR (net_one n) ?_
  intro b1 hb1
  have g1 := upd_same σ b1 (netC n)
  have hσ : ∀ d y, σ d = some y → upd σ b1 (netC n) d = some y := le_upd hb1
  simp (disch := omega) only [go_sem]
  generalize upd σ b1 (netC n) = s1 at *
  refine SRun.boxR (net_one n) ?_
  intro b2 hb2
  have f1 := le_upd (cs := netC n) hb2 _ _ g1
  have f2 := upd_same s1 b2 (netC n)
  have hσ2 : ∀ d y, σ d = some y → upd s1 b2 (netC n) d = some y := fun d y h => le_upd hb2 _ _ (hσ d y h)
  simp (disch := omega) only [go_sem]
  generalize upd s1 b2 (netC n) = s2 at *
  simp (disch := omega) only [f1, f2, e0, go_sem]
  refine SRun.callR (eqStringS_ok hn.routers) ⟨[], rfl, rfl⟩ rfl ?_
  simp (disch := omega) only [f1, f2, e1, go_sem]
  refine SRun.callR (eqLinkS_ok hn.links) ⟨[], rfl, rfl⟩ rfl ?_
  simp (disch := omega) only [f1, f2, e2, go_sem]
  refine SRun.callR (eqIntS_ok hn.origins) ⟨[], rfl, rfl⟩ rfl ?_
  simp (disch := omega) only [f1, f2, e3, go_sem]
  refine SRun.callR (eqIntS_ok hn.externals) ⟨[], rfl, rfl⟩ rfl ?_
  simp (disch := omega) only [f1, f2, e4, go_sem]
  refine SRun.callR (eqImportS_ok hn.imports) ⟨[], rfl, rfl⟩ rfl ?_
  simp (disch := omega) only [f1, f2, e5, go_sem]
  refine SRun.callR (eqFilterS_ok hn.filters) ⟨[], rfl, rfl⟩ rfl ?_
  simp (disch := omega) only [go_sem]
  exact W_retC c11_ok rfl (Conv.drop _ hσ2) ⟨rfl, rfl⟩
end
end
end Go.Proofs.YtjibkkhgejcjeaaGreatDoor.Lg
