/- What is told of the functions that are reached, as far as it is asked here. -/
import Derived.Test.YtlidjjjpjndneaaKx5
import Derived.KernelRfl
set_option linter.unusedSimpArgs false
set_option linter.unusedVariables false
namespace Go.Proofs.Ytlidjjjpjndneaa.Lg
open Go
section
attribute [local irreducible] SRun DS DRun
variable {Γ : St} {σ σ0 : St}
/-- What is told of what is left: where it is no less than nothing, what was taken off is small. -/
def Left (l : Int) (p : Prop) (r : V) : Prop := ∃ x : Int, r = .int .i64 x ∧ x ≤ l ∧ -1 ≤ x ∧ (0 ≤ x → p)
theorem szIntS_ok {ex : Bool} {es : Nat} {xs : List V} {l : Int} (hl : 0 ≤ l ∧ l ≤ 1048576) (h1 : xs.length ≤ 9223372036854775807) : ACalls Try.prog Γ 119 [.isl ex es xs, .int .i64 l] σ fun r s => s = σ ∧ Left l (xs.length ≤ 1048576) r := by
 refine acalls_W c119_ok rfl ?_
 simp (disch := omega) only [c119, go_sem]
 first | refine iteW_dec (fun h => ?_) (fun h => ?_) | refine iteW_of (fun h => ?_) (fun h => ?_)
 ·simp (disch := omega) only [go_sem]
  exact W_retR c119_ok rfl ⟨rfl, -1, rfl, by omega, by omega, fun h => by omega⟩
 ·simp (disch := omega) only [go_sem]
  exact W_retR c119_ok rfl ⟨rfl, l - xs.length, rfl, by omega, by omega, fun h => by omega⟩
theorem szLinkS_ok {ex : Bool} {es : Nat} {xs : List V} {l : Int} (hl : 0 ≤ l ∧ l ≤ 1048576) (h1 : xs.length ≤ 9223372036854775807) : ACalls Try.prog Γ 118 [.isl ex es xs, .int .i64 l] σ fun r s => s = σ ∧ Left l (xs.length ≤ 1048576) r := by
 refine acalls_W c118_ok rfl ?_
 simp (disch := omega) only [c118, go_sem]
 first | refine iteW_dec (fun h => ?_) (fun h => ?_) | refine iteW_of (fun h => ?_) (fun h => ?_)
 ·simp (disch := omega) only [go_sem]
  exact W_retR c118_ok rfl ⟨rfl, -1, rfl, by omega, by omega, fun h => by omega⟩
 ·simp (disch := omega) only [go_sem]
  exact W_retR c118_ok rfl ⟨rfl, l - xs.length, rfl, by omega, by omega, fun h => by omega⟩
theorem szImportS_ok {ex : Bool} {es : Nat} {xs : List V} {l : Int} (hl : 0 ≤ l ∧ l ≤ 1048576) (h1 : xs.length ≤ 9223372036854775807) : ACalls Try.prog Γ 120 [.isl ex es xs, .int .i64 l] σ fun r s => s = σ ∧ Left l (xs.length ≤ 1048576) r := by
 refine acalls_W c120_ok rfl ?_
 simp (disch := omega) only [c120, go_sem]
 first | refine iteW_dec (fun h => ?_) (fun h => ?_) | refine iteW_of (fun h => ?_) (fun h => ?_)
 ·simp (disch := omega) only [go_sem]
  exact W_retR c120_ok rfl ⟨rfl, -1, rfl, by omega, by omega, fun h => by omega⟩
 ·simp (disch := omega) only [go_sem]
  exact W_retR c120_ok rfl ⟨rfl, l - xs.length, rfl, by omega, by omega, fun h => by omega⟩
theorem szFilterS_ok {ex : Bool} {es : Nat} {xs : List V} {l : Int} (hl : 0 ≤ l ∧ l ≤ 1048576) (h1 : xs.length ≤ 9223372036854775807) : ACalls Try.prog Γ 121 [.isl ex es xs, .int .i64 l] σ fun r s => s = σ ∧ Left l (xs.length ≤ 1048576) r := by
 refine acalls_W c121_ok rfl ?_
 simp (disch := omega) only [c121, go_sem]
 first | refine iteW_dec (fun h => ?_) (fun h => ?_) | refine iteW_of (fun h => ?_) (fun h => ?_)
 ·simp (disch := omega) only [go_sem]
  exact W_retR c121_ok rfl ⟨rfl, -1, rfl, by omega, by omega, fun h => by omega⟩
 ·simp (disch := omega) only [go_sem]
  exact W_retR c121_ok rfl ⟨rfl, l - xs.length, rfl, by omega, by omega, fun h => by omega⟩
theorem szStringS_ok {ex : Bool} {ss : List (List UInt8)} {l : Int} (hl : 0 ≤ l ∧ l ≤ 1048576) (h1 : ss.length ≤ 9223372036854775807) (h2 : ∀ s ∈ ss, s.length ≤ 9223372036854775807) : ACalls Try.prog Γ 117 [.isl ex 1 (strsV ss), .int .i64 l] σ fun r s => s = σ ∧ Left l (ss.length ≤ 1048576 ∧ ∀ s ∈ ss, s.length ≤ 1048576) r := by
 refine acalls_W c117_ok rfl ?_
 simp (disch := omega) only [c117, go_sem]
 first | refine iteW_dec (fun h => ?_) (fun h => ?_) | refine iteW_of (fun h => ?_) (fun h => ?_)
 ·simp (disch := omega) only [go_sem]
  exact W_retR c117_ok rfl ⟨rfl, -1, rfl, by omega, by omega, fun h => by omega⟩
 ·simp (disch := omega) only [go_sem]
  refine W_loopC (α := Nat × Int) (fun p => p.1 ≤ ss.length ∧ 0 ≤ p.2 ∧ p.2 ≤ l ∧ ∀ j, j < p.1 → (ss.getD j []).length ≤ 1048576) (fun p => [(0, .isl ex 1 (strsV ss)), (1, .int .i64 p.2), (5, .int .i64 (p.1 : Nat))]) (fun _ => σ) (fun p => ss.length - p.1) (0, l - ss.length) ⟨by omega, by simp only; omega, by simp only; omega, fun j hj => absurd hj (by simp)⟩ (by simp (disch := omega) only [subT, Int.natCast_add, Int.cast_ofNat_Int, go_sem] <;> (repeat' apply And.intro) <;> first | rfl | (congr 1; omega) | assumption) rfl ?_
  rintro ⟨i, m⟩ ⟨hi, hm0, hm, hall⟩ ih
  dsimp only at hi hm0 hm hall
  simp (disch := omega) only [go_sem]
  first | refine iteW_dec (fun hq => ?_) (fun hq => ?_) | refine iteW_of (fun hq => ?_) (fun hq => ?_)
  ·have hs := h2 _ (getD_mem [] (by omega : i < ss.length))
   simp (disch := omega) only [go_sem]
   first | refine iteW_dec (fun hr => ?_) (fun hr => ?_) | refine iteW_of (fun hr => ?_) (fun hr => ?_)
   ·simp (disch := omega) only [go_sem]
    exact W_retR c117_ok rfl ⟨rfl, -1, rfl, by omega, by omega, fun h => by omega⟩
   ·simp (disch := omega) only [go_sem]
    refine ih (i + 1, m - (ss.getD i []).length) _ _ ⟨by omega, by simp only; omega, by simp only; omega, fun j hj => ?_⟩ (by simp only; omega) (by simp (disch := omega) only [subT, Int.natCast_add, Int.cast_ofNat_Int, go_sem] <;> (repeat' apply And.intro) <;> first | rfl | (congr 1; omega) | assumption) rfl
    by_cases e : j = i
    ·subst e; omega
    ·exact hall j (by omega)
  ·have hil : i = ss.length := by omega
   subst hil
   simp (disch := omega) only [go_sem]
   refine W_retR c117_ok rfl ⟨rfl, m, rfl, by omega, by omega, fun _ => ⟨by omega, fun s hs => ?_⟩⟩
   obtain ⟨j, hj, rfl⟩ := List.getElem_of_mem hs
   have := hall j hj
   simpa [List.getD, hj] using this
/-- How long things are that come in at all. -/
structure NetIn (n : Net) : Prop where
 routers : n.routers.length ≤ 9223372036854775807
 names : ∀ s ∈ n.routers, s.length ≤ 9223372036854775807
 links : n.links.length ≤ 9223372036854775807
 origins : n.origins.length ≤ 9223372036854775807
 externals : n.externals.length ≤ 9223372036854775807
 imports : n.imports.length ≤ 9223372036854775807
 filters : n.filters.length ≤ 9223372036854775807
/-- How long they are where they are asked about. -/
structure NetFew (n : Net) : Prop where
 routers : n.routers.length ≤ 1048576
 names : ∀ s ∈ n.routers, s.length ≤ 1048576
 links : n.links.length ≤ 1048576
 origins : n.origins.length ≤ 1048576
 externals : n.externals.length ≤ 1048576
 imports : n.imports.length ≤ 1048576
 filters : n.filters.length ≤ 1048576
theorem NetFew.len {n : Net} (h : NetFew n) : NetLen n :=
 ⟨Nat.le_trans h.routers (by decide), fun s hs => Nat.le_trans (h.names s hs) (by decide), Nat.le_trans h.links (by decide), Nat.le_trans h.origins (by decide), Nat.le_trans h.externals (by decide), Nat.le_trans h.imports (by decide), Nat.le_trans h.filters (by decide)⟩
theorem szNet_ok {n : Net} (hn : NetIn n) {l : Int} (hl : 0 ≤ l ∧ l ≤ 1048576) : ACalls Try.prog Γ 47 [netV n, .int .i64 l] σ fun r s => s = σ ∧ Left l (NetFew n) r := by
 have e0 : (netC n)[0]? = some (.isl false 1 (strsV n.routers)) := rfl
 have e1 : (netC n)[1]? = some (.isl false 3 (linksV n.links)) := rfl
 have e2 : (netC n)[2]? = some (.isl false 1 (ints n.origins)) := rfl
 have e3 : (netC n)[3]? = some (.isl false 1 (ints n.externals)) := rfl
 have e4 : (netC n)[4]? = some (.isl false 5 (impsV n.imports)) := rfl
 have e5 : (netC n)[5]? = some (.isl false 4 (filsV n.filters)) := rfl
 refine acalls_W c47_ok rfl ?_
 simp (disch := omega) only [c47, netV, go_sem]
 refine SRun.boxR (net_one n) ?_
 intro b1 hb1
 have g1 := upd_same σ b1 (netC n)
 have hσ : ∀ d x, σ d = some x → upd σ b1 (netC n) d = some x := le_upd hb1
 simp (disch := omega) only [go_sem]
 generalize upd σ b1 (netC n) = s1 at *
 simp (disch := omega) only [g1, e0, go_sem]
 refine SRun.callQ (szStringS_ok hl hn.routers hn.names) ⟨[], rfl, rfl⟩ rfl ?_
 rintro r s ⟨rfl, x1, rfl, h1, h1', k1⟩
 simp (disch := omega) only [go_sem]
 first | refine iteW_dec (fun q1 => ?_) (fun q1 => ?_) | refine iteW_of (fun q1 => ?_) (fun q1 => ?_)
 ·simp (disch := omega) only [go_sem]
  exact W_retC c47_ok rfl (Conv.drop _ hσ) ⟨rfl, -1, rfl, by omega, by omega, fun h => by omega⟩
 simp (disch := omega) only [g1, e1, go_sem]
 refine SRun.callQ (szLinkS_ok (es := 3) (xs := linksV n.links) ⟨by omega, by omega⟩ (by rw [linksV_len]; exact hn.links)) ⟨[], rfl, rfl⟩ rfl ?_
 rintro r s ⟨rfl, x2, rfl, h2, h2', k2⟩
 simp (disch := omega) only [go_sem]
 first | refine iteW_dec (fun q2 => ?_) (fun q2 => ?_) | refine iteW_of (fun q2 => ?_) (fun q2 => ?_)
 ·simp (disch := omega) only [go_sem]
  exact W_retC c47_ok rfl (Conv.drop _ hσ) ⟨rfl, -1, rfl, by omega, by omega, fun h => by omega⟩
 simp (disch := omega) only [g1, e2, go_sem]
 refine SRun.callQ (szIntS_ok (es := 1) (xs := ints n.origins) ⟨by omega, by omega⟩ (by rw [ints_len]; exact hn.origins)) ⟨[], rfl, rfl⟩ rfl ?_
 rintro r s ⟨rfl, x3, rfl, h3, h3', k3⟩
 simp (disch := omega) only [go_sem]
 first | refine iteW_dec (fun q3 => ?_) (fun q3 => ?_) | refine iteW_of (fun q3 => ?_) (fun q3 => ?_)
 ·simp (disch := omega) only [go_sem]
  exact W_retC c47_ok rfl (Conv.drop _ hσ) ⟨rfl, -1, rfl, by omega, by omega, fun h => by omega⟩
 simp (disch := omega) only [g1, e3, go_sem]
 refine SRun.callQ (szIntS_ok (es := 1) (xs := ints n.externals) ⟨by omega, by omega⟩ (by rw [ints_len]; exact hn.externals)) ⟨[], rfl, rfl⟩ rfl ?_
 rintro r s ⟨rfl, x4, rfl, h4, h4', k4⟩
 simp (disch := omega) only [go_sem]
 first | refine iteW_dec (fun q4 => ?_) (fun q4 => ?_) | refine iteW_of (fun q4 => ?_) (fun q4 => ?_)
 ·simp (disch := omega) only [go_sem]
  exact W_retC c47_ok rfl (Conv.drop _ hσ) ⟨rfl, -1, rfl, by omega, by omega, fun h => by omega⟩
 simp (disch := omega) only [g1, e4, go_sem]
 refine SRun.callQ (szImportS_ok (es := 5) (xs := impsV n.imports) ⟨by omega, by omega⟩ (by rw [impsV_len]; exact hn.imports)) ⟨[], rfl, rfl⟩ rfl ?_
 rintro r s ⟨rfl, x5, rfl, h5, h5', k5⟩
 simp (disch := omega) only [go_sem]
 first | refine iteW_dec (fun q5 => ?_) (fun q5 => ?_) | refine iteW_of (fun q5 => ?_) (fun q5 => ?_)
 ·simp (disch := omega) only [go_sem]
  exact W_retC c47_ok rfl (Conv.drop _ hσ) ⟨rfl, -1, rfl, by omega, by omega, fun h => by omega⟩
 simp (disch := omega) only [g1, e5, go_sem]
 refine SRun.callQ (szFilterS_ok (es := 4) (xs := filsV n.filters) ⟨by omega, by omega⟩ (by rw [filsV_len]; exact hn.filters)) ⟨[], rfl, rfl⟩ rfl ?_
 rintro r s ⟨rfl, x6, rfl, h6, h6', k6⟩
 simp (disch := omega) only [go_sem]
 first | refine iteW_dec (fun q6 => ?_) (fun q6 => ?_) | refine iteW_of (fun q6 => ?_) (fun q6 => ?_)
 ·simp (disch := omega) only [go_sem]
  exact W_retC c47_ok rfl (Conv.drop _ hσ) ⟨rfl, -1, rfl, by omega, by omega, fun h => by omega⟩
 simp (disch := omega) only [go_sem]
 refine W_retC c47_ok rfl (Conv.drop _ hσ) ⟨rfl, x6, rfl, by omega, by omega, fun h => ?_⟩
 rw [linksV_len] at k2
 rw [ints_len] at k3 k4
 rw [impsV_len] at k5
 rw [filsV_len] at k6
 have j1 := k1 (by omega)
 exact ⟨j1.1, j1.2, k2 (by omega), k3 (by omega), k4 (by omega), k5 (by omega), k6 (by omega)⟩
end
section
attribute [local irreducible] SRun DS DRun
variable {Γ : St} {σ σ0 : St}
theorem flat_app (xs ys : List V) : flat (xs ++ ys) = flat xs ++ flat ys := by simp [flat]
theorem sets_at {a b : List V} : ∀ {z c : List V}, z.length = c.length → sets (a ++ (z ++ b)) a.length c = a ++ (c ++ b) := by
 intro z c
 induction c generalizing a z with
 | nil => intro h; have : z = [] := List.eq_nil_of_length_eq_zero h; subst this; rfl
 | cons x r ih =>
  intro h
  cases z with
  | nil => cases h
  | cons y q =>
   have h' : q.length = r.length := by simpa using h
   have e1 : (a ++ ((y :: q) ++ b)).set a.length x = (a ++ [x]) ++ (q ++ b) := by
    rw [List.set_append_right _ _ (Nat.le_refl _), Nat.sub_self]; simp
   show sets ((a ++ ((y :: q) ++ b)).set a.length x) (a.length + 1) r = _
   rw [e1, show a.length + 1 = (a ++ [x]).length by simp, ih h']
   simp
/-- A row that is filled: the first i are there, the rest is as it was made. -/
def partR (z : List V) (xs : List V) (N i : Nat) : List V := flat (xs.take i) ++ (List.replicate (N - i) z).flatten
theorem partR_zero (z : List V) (xs : List V) (N : Nat) : partR z xs N 0 = (List.replicate N z).flatten := by simp [partR, flat]
theorem partR_all {z : List V} {xs : List V} {N : Nat} (h : xs.length = N) : partR z xs N N = flat xs := by
 unfold partR; rw [List.take_of_length_le (by omega)]; simp
theorem flat_len {xs : List V} {es : Nat} (h : ∀ x ∈ xs, x.cells.length = es) : (flat xs).length = xs.length * es := flat_length h
theorem repl_len (z : List V) (k : Nat) : (List.replicate k z).flatten.length = k * z.length := by
 induction k with
 | zero => simp
 | succ k ih => rw [List.replicate_succ, List.flatten_cons, List.length_append, ih, Nat.succ_mul, Nat.add_comm]
theorem partR_len {z : List V} {xs : List V} {N i es : Nat} (h : ∀ x ∈ xs, x.cells.length = es) (hz : z.length = es) (hl : xs.length = N) (hi : i ≤ N) : (partR z xs N i).length = N * es := by
 unfold partR
 rw [List.length_append, flat_len (fun x hx => h x (List.mem_of_mem_take hx)), repl_len, hz, List.length_take, Nat.min_eq_left (by omega), ← Nat.add_mul, Nat.add_sub_cancel' hi]
theorem partR_set {z : List V} {xs : List V} {N i es : Nat} {x : V} (h : ∀ x ∈ xs, x.cells.length = es) (hz : z.length = es) (hl : xs.length = N) (hx : xs[i]? = some x) : sets (partR z xs N i) (i * es) x.cells = partR z xs N (i + 1) := by
 have hi : i < xs.length := (List.getElem?_eq_some_iff.1 hx).1
 have hxi : xs[i] = x := (List.getElem?_eq_some_iff.1 hx).2
 have e1 : (flat (xs.take i)).length = i * es := by
  rw [flat_len (fun x hx => h x (List.mem_of_mem_take hx)), List.length_take, Nat.min_eq_left (by omega)]
 have hxc : x.cells.length = es := h x (by rw [← hxi]; exact List.getElem_mem hi)
 have e2 : N - i = (N - (i + 1)) + 1 := by omega
 unfold partR
 rw [e2, List.replicate_succ, List.flatten_cons, ← e1, sets_at (by omega), List.take_add_one, hx]
 simp only [Option.toList, flat_app]
 rw [show flat [x] = x.cells by simp [flat]]
 simp
/-- A row that is filled to its end is the slice. -/
theorem conv_part {z : List V} {xs : List V} {N es b : Nat} {s : St} (h : ∀ x ∈ xs, x.cells.length = es ∧ ∀ c ∈ x.cells, c.one = true) (hl : xs.length = N) (hb : s b = none) :
  Conv (upd s b (partR z xs N N)) (.msl b es 0 N N) s (.isl false es xs) := by
 rw [partR_all hl]
 have ho : OwnL s es xs (.msl b es 0 N N) (upd s b (flat xs)) := ⟨.inr ⟨b, N, hb, by rw [hl], rfl, flat_len (fun x hx => (h x hx).1), by omega⟩, h⟩
 exact ho.conv
theorem one_cell {xs : List V} (h : ∀ x ∈ xs, x.one = true) : ∀ x ∈ xs, x.cells.length = 1 ∧ ∀ c ∈ x.cells, c.one = true := by
 intro x hx
 have h1 := h x hx
 have : x.cells = [x] := by cases x <;> first | rfl | (simp [V.one] at h1)
 rw [this]
 exact ⟨rfl, by simpa using h1⟩
theorem toIntS_ok {ex : Bool} {xs : List (Int)} (h1 : xs.length ≤ 1048576) : Ret Try.prog Γ 124 [.isl ex 1 (ints xs)] σ (.isl false 1 (ints xs)) σ := by
 have hc : ∀ x ∈ ints xs, x.cells.length = 1 ∧ ∀ c ∈ x.cells, c.one = true := one_cell (fun x hx => by obtain ⟨y, _, rfl⟩ := List.mem_map.1 hx; rfl)
 have hc1 := fun x hx => (hc x hx).1
 have hl : (ints xs).length = xs.length := ints_len xs
 refine ret_of c124_ok rfl ?_
 simp (disch := omega) only [c124, go_sem]
 refine SRun.mkslR (n' := xs.length) (m := xs.length) rfl rfl rfl (Nat.le_refl _) (by omega) (by omega) ?_
 intro b hb
 simp (disch := omega) only [go_sem]
 refine W_loopC (α := Nat) (fun i => i ≤ xs.length) (fun i => [(0, .isl ex 1 (ints xs)), (3, .msl b 1 0 xs.length xs.length), (4, .int .i64 (i : Nat))]) (fun i => upd σ b (partR [V.int .i64 0] (ints xs) xs.length i)) (fun i => xs.length - i) 0 (by omega) (by simp (disch := omega) only [subT, Int.natCast_add, Int.cast_ofNat_Int, go_sem] <;> (repeat' apply And.intro) <;> first | rfl | (congr 1; omega) | assumption) (by rw [partR_zero]) ?_
 intro i hi ih
 have hpl := partR_len (z := [V.int .i64 0]) hc1 rfl hl hi
 have g1 := upd_same σ b (partR [V.int .i64 0] (ints xs) xs.length i)
 simp (disch := omega) only [go_sem]
 first | refine iteW_dec (fun hq => ?_) (fun hq => ?_) | refine iteW_of (fun hq => ?_) (fun hq => ?_)
 ·simp (disch := omega) only [g1, hpl, go_sem]
  have hx : (ints xs)[i]? = some (V.int .i64 (xs.getD i 0)) := by
   rw [ints, List.getElem?_map, List.getElem?_eq_getElem (by omega)]; simp [List.getD, show i < xs.length by omega]
  have hs : (partR [V.int .i64 0] (ints xs) xs.length i).set i (V.int .i64 (xs.getD i 0)) = partR [V.int .i64 0] (ints xs) xs.length (i + 1) := by
   have := partR_set (z := [V.int .i64 0]) hc1 rfl hl hx
   rw [Nat.mul_one] at this
   exact this
  rw [hs]
  exact ih (i + 1) _ _ (by omega) (by omega) (by simp (disch := omega) only [subT, Int.natCast_add, Int.cast_ofNat_Int, go_sem] <;> (repeat' apply And.intro) <;> first | rfl | (congr 1; omega) | assumption) rfl
 ·obtain rfl : i = xs.length := by omega
  simp (disch := omega) only [go_sem]
  exact W_retC c124_ok rfl (conv_part hc hl hb) ⟨rfl, rfl⟩
theorem toStringS_ok {ex : Bool} {xs : List (List UInt8)} (h1 : xs.length ≤ 1048576) : Ret Try.prog Γ 122 [.isl ex 1 (strsV xs)] σ (.isl false 1 (strsV xs)) σ := by
 have hc : ∀ x ∈ strsV xs, x.cells.length = 1 ∧ ∀ c ∈ x.cells, c.one = true := one_cell (fun x hx => by obtain ⟨y, _, rfl⟩ := List.mem_map.1 hx; rfl)
 have hc1 := fun x hx => (hc x hx).1
 have hl : (strsV xs).length = xs.length := strsV_len xs
 refine ret_of c122_ok rfl ?_
 simp (disch := omega) only [c122, go_sem]
 refine SRun.mkslR (n' := xs.length) (m := xs.length) rfl rfl rfl (Nat.le_refl _) (by omega) (by omega) ?_
 intro b hb
 simp (disch := omega) only [go_sem]
 refine W_loopC (α := Nat) (fun i => i ≤ xs.length) (fun i => [(0, .isl ex 1 (strsV xs)), (3, .msl b 1 0 xs.length xs.length), (4, .int .i64 (i : Nat))]) (fun i => upd σ b (partR [V.str []] (strsV xs) xs.length i)) (fun i => xs.length - i) 0 (by omega) (by simp (disch := omega) only [subT, Int.natCast_add, Int.cast_ofNat_Int, go_sem] <;> (repeat' apply And.intro) <;> first | rfl | (congr 1; omega) | assumption) (by rw [partR_zero]) ?_
 intro i hi ih
 have hpl := partR_len (z := [V.str []]) hc1 rfl hl hi
 have g1 := upd_same σ b (partR [V.str []] (strsV xs) xs.length i)
 simp (disch := omega) only [go_sem]
 first | refine iteW_dec (fun hq => ?_) (fun hq => ?_) | refine iteW_of (fun hq => ?_) (fun hq => ?_)
 ·simp (disch := omega) only [g1, hpl, go_sem]
  have hx : (strsV xs)[i]? = some (V.str (xs.getD i [])) := by
   rw [strsV, List.getElem?_map, List.getElem?_eq_getElem (by omega)]; simp [List.getD, show i < xs.length by omega]
  have hs : (partR [V.str []] (strsV xs) xs.length i).set i (V.str (xs.getD i [])) = partR [V.str []] (strsV xs) xs.length (i + 1) := by
   have := partR_set (z := [V.str []]) hc1 rfl hl hx
   rw [Nat.mul_one] at this
   exact this
  rw [hs]
  exact ih (i + 1) _ _ (by omega) (by omega) (by simp (disch := omega) only [subT, Int.natCast_add, Int.cast_ofNat_Int, go_sem] <;> (repeat' apply And.intro) <;> first | rfl | (congr 1; omega) | assumption) rfl
 ·obtain rfl : i = xs.length := by omega
  simp (disch := omega) only [go_sem]
  exact W_retC c122_ok rfl (conv_part hc hl hb) ⟨rfl, rfl⟩
theorem toLink_ok {x : Link} : Ret Try.prog Γ 188 [.agg (linkC x)] σ (.agg (linkC x)) σ := by
 have hone : ∀ c ∈ (V.agg (linkC x)).cells, c.one = true := by simp [linkC, V.cells, V.one]
 refine ret_of c188_ok rfl ?_
 simp (disch := omega) only [c188, go_sem]
 refine SRun.boxR hone ?_
 intro b1 hb1
 have g1 := upd_same σ b1 (linkC x)
 have hσ : ∀ d y, σ d = some y → upd σ b1 (linkC x) d = some y := le_upd hb1
 simp (disch := omega) only [go_sem]
 generalize upd σ b1 (linkC x) = s1 at *
 refine SRun.allocR ?_
 intro b2 hb2
 have g1' := le_upd (cs := [.int .i64 0, .int .i64 0, .int .i64 0]) hb2 _ _ g1
 have g2 := upd_same s1 b2 [.int .i64 0, .int .i64 0, .int .i64 0]
 have hσ2 : ∀ d y, σ d = some y → upd s1 b2 [.int .i64 0, .int .i64 0, .int .i64 0] d = some y := fun d y h => le_upd hb2 _ _ (hσ d y h)
 simp (disch := omega) only [go_sem]
 generalize upd s1 b2 [.int .i64 0, .int .i64 0, .int .i64 0] = s2 at *
 refine SRun.allocR ?_
 intro b3 hb3
 have n31 : b3 ≠ b1 := fun e => by subst e; rw [g1'] at hb3; cases hb3
 have n32 : b3 ≠ b2 := fun e => by subst e; rw [g2] at hb3; cases hb3
 have f1 : ∀ c, upd s2 b3 c b1 = some (linkC x) := fun c => by rw [upd_ne _ _ n31.symm]; exact g1'
 have f2 : ∀ c, upd s2 b3 c b2 = some [.int .i64 0, .int .i64 0, .int .i64 0] := fun c => by rw [upd_ne _ _ n32.symm]; exact g2
 simp (disch := omega) only [f1, f2, linkC, go_sem]
 refine W_retC c188_ok (resV_cellA rfl (upd_same _ _ _) rfl) (Conv.drop _ fun d y hd => ?_) ⟨rfl, rfl⟩
 have hd2 : d ≠ b2 := fun e => by subst e; rw [hσ d y hd] at hb2; cases hb2
 have hd3 : d ≠ b3 := fun e => by subst e; rw [hσ2 d y hd] at hb3; cases hb3
 rw [upd_ne _ _ hd2, upd_ne _ _ hd3]
 exact hσ2 d y hd
theorem toLinkS_ok {ex : Bool} {xs : List (Link)} (h1 : xs.length ≤ 1048576) : Ret Try.prog Γ 123 [.isl ex 3 (linksV xs)] σ (.isl false 3 (linksV xs)) σ := by
 have hc : ∀ x ∈ linksV xs, x.cells.length = 3 ∧ ∀ c ∈ x.cells, c.one = true := fun x hx => by obtain ⟨y, _, rfl⟩ := List.mem_map.1 hx; simp [linkC, V.cells, V.one]
 have hc1 := fun x hx => (hc x hx).1
 have hl : (linksV xs).length = xs.length := linksV_len xs
 refine ret_of c123_ok rfl ?_
 simp (disch := omega) only [c123, go_sem]
 refine SRun.mkslR (n' := xs.length) (m := xs.length) rfl rfl rfl (Nat.le_refl _) (by omega) (by omega) ?_
 intro b hb
 simp (disch := omega) only [go_sem]
 refine W_loopC (α := Nat) (fun i => i ≤ xs.length) (fun i => [(0, .isl ex 3 (linksV xs)), (3, .msl b 3 0 xs.length xs.length), (4, .int .i64 (i : Nat))]) (fun i => upd σ b (partR [.int .i64 0, .int .i64 0, .int .i64 0] (linksV xs) xs.length i)) (fun i => xs.length - i) 0 (by omega) (by simp (disch := omega) only [subT, Int.natCast_add, Int.cast_ofNat_Int, go_sem] <;> (repeat' apply And.intro) <;> first | rfl | (congr 1; omega) | assumption) (by rw [partR_zero]) ?_
 intro i hi ih
 have hpl := partR_len (z := [.int .i64 0, .int .i64 0, .int .i64 0]) hc1 rfl hl hi
 have g1 := upd_same σ b (partR [.int .i64 0, .int .i64 0, .int .i64 0] (linksV xs) xs.length i)
 simp (disch := omega) only [go_sem]
 first | refine iteW_dec (fun hq => ?_) (fun hq => ?_) | refine iteW_of (fun hq => ?_) (fun hq => ?_)
 ·have htk : (linkC (xs.getD i default)).take 3 = linkC (xs.getD i default) := rfl
  have hln : (linkC (xs.getD i default)).length = 3 := rfl
  have hone : (∀ c, c ∈ linkC (xs.getD i default) → c.one = true) = True := eq_true (by simp [linkC, V.one])
  simp (disch := omega) only [htk, hln, go_sem]
  refine SRun.callR (toLink_ok) ⟨[], rfl, rfl⟩ rfl ?_
  simp (disch := omega) only [List.getD_cons_zero, List.getD_cons_succ, go_sem]
  simp (disch := omega) only [g1, hpl, hln, hone, go_sem]
  have hx : (linksV xs)[i]? = some (.agg (linkC (xs.getD i default))) := by
   rw [linksV, List.getElem?_map, List.getElem?_eq_getElem (by omega)]; simp [List.getD, show i < xs.length by omega]
  have hs : sets (partR [.int .i64 0, .int .i64 0, .int .i64 0] (linksV xs) xs.length i) (i * 3) (linkC (xs.getD i default)) = partR [.int .i64 0, .int .i64 0, .int .i64 0] (linksV xs) xs.length (i + 1) := partR_set (z := [.int .i64 0, .int .i64 0, .int .i64 0]) hc1 rfl hl hx
  rw [hs]
  exact ih (i + 1) _ _ (by omega) (by omega) (by simp (disch := omega) only [subT, Int.natCast_add, Int.cast_ofNat_Int, go_sem] <;> (repeat' apply And.intro) <;> first | rfl | (congr 1; omega) | assumption) rfl
 ·obtain rfl : i = xs.length := by omega
  simp (disch := omega) only [go_sem]
  exact W_retC c123_ok rfl (conv_part hc hl hb) ⟨rfl, rfl⟩
theorem toImport_ok {x : Imp} : Ret Try.prog Γ 189 [.agg (impC x)] σ (.agg (impC x)) σ := by
 have hone : ∀ c ∈ (V.agg (impC x)).cells, c.one = true := by simp [impC, V.cells, V.one]
 refine ret_of c189_ok rfl ?_
 simp (disch := omega) only [c189, go_sem]
 refine SRun.boxR hone ?_
 intro b1 hb1
 have g1 := upd_same σ b1 (impC x)
 have hσ : ∀ d y, σ d = some y → upd σ b1 (impC x) d = some y := le_upd hb1
 simp (disch := omega) only [go_sem]
 generalize upd σ b1 (impC x) = s1 at *
 refine SRun.allocR ?_
 intro b2 hb2
 have g1' := le_upd (cs := [.int .i64 0, .int .i64 0, .int .i64 0, .int .i64 0, .int .i64 0]) hb2 _ _ g1
 have g2 := upd_same s1 b2 [.int .i64 0, .int .i64 0, .int .i64 0, .int .i64 0, .int .i64 0]
 have hσ2 : ∀ d y, σ d = some y → upd s1 b2 [.int .i64 0, .int .i64 0, .int .i64 0, .int .i64 0, .int .i64 0] d = some y := fun d y h => le_upd hb2 _ _ (hσ d y h)
 simp (disch := omega) only [go_sem]
 generalize upd s1 b2 [.int .i64 0, .int .i64 0, .int .i64 0, .int .i64 0, .int .i64 0] = s2 at *
 refine SRun.allocR ?_
 intro b3 hb3
 have n31 : b3 ≠ b1 := fun e => by subst e; rw [g1'] at hb3; cases hb3
 have n32 : b3 ≠ b2 := fun e => by subst e; rw [g2] at hb3; cases hb3
 have f1 : ∀ c, upd s2 b3 c b1 = some (impC x) := fun c => by rw [upd_ne _ _ n31.symm]; exact g1'
 have f2 : ∀ c, upd s2 b3 c b2 = some [.int .i64 0, .int .i64 0, .int .i64 0, .int .i64 0, .int .i64 0] := fun c => by rw [upd_ne _ _ n32.symm]; exact g2
 simp (disch := omega) only [f1, f2, impC, go_sem]
 refine W_retC c189_ok (resV_cellA rfl (upd_same _ _ _) rfl) (Conv.drop _ fun d y hd => ?_) ⟨rfl, rfl⟩
 have hd2 : d ≠ b2 := fun e => by subst e; rw [hσ d y hd] at hb2; cases hb2
 have hd3 : d ≠ b3 := fun e => by subst e; rw [hσ2 d y hd] at hb3; cases hb3
 rw [upd_ne _ _ hd2, upd_ne _ _ hd3]
 exact hσ2 d y hd
theorem toImportS_ok {ex : Bool} {xs : List (Imp)} (h1 : xs.length ≤ 1048576) : Ret Try.prog Γ 125 [.isl ex 5 (impsV xs)] σ (.isl false 5 (impsV xs)) σ := by
 have hc : ∀ x ∈ impsV xs, x.cells.length = 5 ∧ ∀ c ∈ x.cells, c.one = true := fun x hx => by obtain ⟨y, _, rfl⟩ := List.mem_map.1 hx; simp [impC, V.cells, V.one]
 have hc1 := fun x hx => (hc x hx).1
 have hl : (impsV xs).length = xs.length := impsV_len xs
 refine ret_of c125_ok rfl ?_
 simp (disch := omega) only [c125, go_sem]
 refine SRun.mkslR (n' := xs.length) (m := xs.length) rfl rfl rfl (Nat.le_refl _) (by omega) (by omega) ?_
 intro b hb
 simp (disch := omega) only [go_sem]
 refine W_loopC (α := Nat) (fun i => i ≤ xs.length) (fun i => [(0, .isl ex 5 (impsV xs)), (3, .msl b 5 0 xs.length xs.length), (4, .int .i64 (i : Nat))]) (fun i => upd σ b (partR [.int .i64 0, .int .i64 0, .int .i64 0, .int .i64 0, .int .i64 0] (impsV xs) xs.length i)) (fun i => xs.length - i) 0 (by omega) (by simp (disch := omega) only [subT, Int.natCast_add, Int.cast_ofNat_Int, go_sem] <;> (repeat' apply And.intro) <;> first | rfl | (congr 1; omega) | assumption) (by rw [partR_zero]) ?_
 intro i hi ih
 have hpl := partR_len (z := [.int .i64 0, .int .i64 0, .int .i64 0, .int .i64 0, .int .i64 0]) hc1 rfl hl hi
 have g1 := upd_same σ b (partR [.int .i64 0, .int .i64 0, .int .i64 0, .int .i64 0, .int .i64 0] (impsV xs) xs.length i)
 simp (disch := omega) only [go_sem]
 first | refine iteW_dec (fun hq => ?_) (fun hq => ?_) | refine iteW_of (fun hq => ?_) (fun hq => ?_)
 ·have htk : (impC (xs.getD i default)).take 5 = impC (xs.getD i default) := rfl
  have hln : (impC (xs.getD i default)).length = 5 := rfl
  have hone : (∀ c, c ∈ impC (xs.getD i default) → c.one = true) = True := eq_true (by simp [impC, V.one])
  simp (disch := omega) only [htk, hln, go_sem]
  refine SRun.callR (toImport_ok) ⟨[], rfl, rfl⟩ rfl ?_
  simp (disch := omega) only [List.getD_cons_zero, List.getD_cons_succ, go_sem]
  simp (disch := omega) only [g1, hpl, hln, hone, go_sem]
  have hx : (impsV xs)[i]? = some (.agg (impC (xs.getD i default))) := by
   rw [impsV, List.getElem?_map, List.getElem?_eq_getElem (by omega)]; simp [List.getD, show i < xs.length by omega]
  have hs : sets (partR [.int .i64 0, .int .i64 0, .int .i64 0, .int .i64 0, .int .i64 0] (impsV xs) xs.length i) (i * 5) (impC (xs.getD i default)) = partR [.int .i64 0, .int .i64 0, .int .i64 0, .int .i64 0, .int .i64 0] (impsV xs) xs.length (i + 1) := partR_set (z := [.int .i64 0, .int .i64 0, .int .i64 0, .int .i64 0, .int .i64 0]) hc1 rfl hl hx
  rw [hs]
  exact ih (i + 1) _ _ (by omega) (by omega) (by simp (disch := omega) only [subT, Int.natCast_add, Int.cast_ofNat_Int, go_sem] <;> (repeat' apply And.intro) <;> first | rfl | (congr 1; omega) | assumption) rfl
 ·obtain rfl : i = xs.length := by omega
  simp (disch := omega) only [go_sem]
  exact W_retC c125_ok rfl (conv_part hc hl hb) ⟨rfl, rfl⟩
theorem toFilter_ok {x : Fil} : Ret Try.prog Γ 190 [.agg (filC x)] σ (.agg (filC x)) σ := by
 have hone : ∀ c ∈ (V.agg (filC x)).cells, c.one = true := by simp [filC, V.cells, V.one]
 refine ret_of c190_ok rfl ?_
 simp (disch := omega) only [c190, go_sem]
 refine SRun.boxR hone ?_
 intro b1 hb1
 have g1 := upd_same σ b1 (filC x)
 have hσ : ∀ d y, σ d = some y → upd σ b1 (filC x) d = some y := le_upd hb1
 simp (disch := omega) only [go_sem]
 generalize upd σ b1 (filC x) = s1 at *
 refine SRun.allocR ?_
 intro b2 hb2
 have g1' := le_upd (cs := [.int .i64 0, .int .i64 0, .int .i64 0, .int .i64 0]) hb2 _ _ g1
 have g2 := upd_same s1 b2 [.int .i64 0, .int .i64 0, .int .i64 0, .int .i64 0]
 have hσ2 : ∀ d y, σ d = some y → upd s1 b2 [.int .i64 0, .int .i64 0, .int .i64 0, .int .i64 0] d = some y := fun d y h => le_upd hb2 _ _ (hσ d y h)
 simp (disch := omega) only [go_sem]
 generalize upd s1 b2 [.int .i64 0, .int .i64 0, .int .i64 0, .int .i64 0] = s2 at *
 refine SRun.allocR ?_
 intro b3 hb3
 have n31 : b3 ≠ b1 := fun e => by subst e; rw [g1'] at hb3; cases hb3
 have n32 : b3 ≠ b2 := fun e => by subst e; rw [g2] at hb3; cases hb3
 have f1 : ∀ c, upd s2 b3 c b1 = some (filC x) := fun c => by rw [upd_ne _ _ n31.symm]; exact g1'
 have f2 : ∀ c, upd s2 b3 c b2 = some [.int .i64 0, .int .i64 0, .int .i64 0, .int .i64 0] := fun c => by rw [upd_ne _ _ n32.symm]; exact g2
 simp (disch := omega) only [f1, f2, filC, go_sem]
 refine W_retC c190_ok (resV_cellA rfl (upd_same _ _ _) rfl) (Conv.drop _ fun d y hd => ?_) ⟨rfl, rfl⟩
 have hd2 : d ≠ b2 := fun e => by subst e; rw [hσ d y hd] at hb2; cases hb2
 have hd3 : d ≠ b3 := fun e => by subst e; rw [hσ2 d y hd] at hb3; cases hb3
 rw [upd_ne _ _ hd2, upd_ne _ _ hd3]
 exact hσ2 d y hd
theorem toFilterS_ok {ex : Bool} {xs : List (Fil)} (h1 : xs.length ≤ 1048576) : Ret Try.prog Γ 126 [.isl ex 4 (filsV xs)] σ (.isl false 4 (filsV xs)) σ := by
 have hc : ∀ x ∈ filsV xs, x.cells.length = 4 ∧ ∀ c ∈ x.cells, c.one = true := fun x hx => by obtain ⟨y, _, rfl⟩ := List.mem_map.1 hx; simp [filC, V.cells, V.one]
 have hc1 := fun x hx => (hc x hx).1
 have hl : (filsV xs).length = xs.length := filsV_len xs
 refine ret_of c126_ok rfl ?_
 simp (disch := omega) only [c126, go_sem]
 refine SRun.mkslR (n' := xs.length) (m := xs.length) rfl rfl rfl (Nat.le_refl _) (by omega) (by omega) ?_
 intro b hb
 simp (disch := omega) only [go_sem]
 refine W_loopC (α := Nat) (fun i => i ≤ xs.length) (fun i => [(0, .isl ex 4 (filsV xs)), (3, .msl b 4 0 xs.length xs.length), (4, .int .i64 (i : Nat))]) (fun i => upd σ b (partR [.int .i64 0, .int .i64 0, .int .i64 0, .int .i64 0] (filsV xs) xs.length i)) (fun i => xs.length - i) 0 (by omega) (by simp (disch := omega) only [subT, Int.natCast_add, Int.cast_ofNat_Int, go_sem] <;> (repeat' apply And.intro) <;> first | rfl | (congr 1; omega) | assumption) (by rw [partR_zero]) ?_
 intro i hi ih
 have hpl := partR_len (z := [.int .i64 0, .int .i64 0, .int .i64 0, .int .i64 0]) hc1 rfl hl hi
 have g1 := upd_same σ b (partR [.int .i64 0, .int .i64 0, .int .i64 0, .int .i64 0] (filsV xs) xs.length i)
 simp (disch := omega) only [go_sem]
 first | refine iteW_dec (fun hq => ?_) (fun hq => ?_) | refine iteW_of (fun hq => ?_) (fun hq => ?_)
 ·have htk : (filC (xs.getD i default)).take 4 = filC (xs.getD i default) := rfl
  have hln : (filC (xs.getD i default)).length = 4 := rfl
  have hone : (∀ c, c ∈ filC (xs.getD i default) → c.one = true) = True := eq_true (by simp [filC, V.one])
  simp (disch := omega) only [htk, hln, go_sem]
  refine SRun.callR (toFilter_ok) ⟨[], rfl, rfl⟩ rfl ?_
  simp (disch := omega) only [List.getD_cons_zero, List.getD_cons_succ, go_sem]
  simp (disch := omega) only [g1, hpl, hln, hone, go_sem]
  have hx : (filsV xs)[i]? = some (.agg (filC (xs.getD i default))) := by
   rw [filsV, List.getElem?_map, List.getElem?_eq_getElem (by omega)]; simp [List.getD, show i < xs.length by omega]
  have hs : sets (partR [.int .i64 0, .int .i64 0, .int .i64 0, .int .i64 0] (filsV xs) xs.length i) (i * 4) (filC (xs.getD i default)) = partR [.int .i64 0, .int .i64 0, .int .i64 0, .int .i64 0] (filsV xs) xs.length (i + 1) := partR_set (z := [.int .i64 0, .int .i64 0, .int .i64 0, .int .i64 0]) hc1 rfl hl hx
  rw [hs]
  exact ih (i + 1) _ _ (by omega) (by omega) (by simp (disch := omega) only [subT, Int.natCast_add, Int.cast_ofNat_Int, go_sem] <;> (repeat' apply And.intro) <;> first | rfl | (congr 1; omega) | assumption) rfl
 ·obtain rfl : i = xs.length := by omega
  simp (disch := omega) only [go_sem]
  exact W_retC c126_ok rfl (conv_part hc hl hb) ⟨rfl, rfl⟩
theorem toNet_ok {n : Net} (hn : NetFew n) : Ret Try.prog Γ 48 [netV n] σ (netV n) σ := by
 have e0 : (netC n)[0]? = some (.isl false 1 (strsV n.routers)) := rfl
 have e1 : (netC n)[1]? = some (.isl false 3 (linksV n.links)) := rfl
 have e2 : (netC n)[2]? = some (.isl false 1 (ints n.origins)) := rfl
 have e3 : (netC n)[3]? = some (.isl false 1 (ints n.externals)) := rfl
 have e4 : (netC n)[4]? = some (.isl false 5 (impsV n.imports)) := rfl
 have e5 : (netC n)[5]? = some (.isl false 4 (filsV n.filters)) := rfl
 refine ret_of c48_ok rfl ?_
 simp (disch := omega) only [c48, netV, go_sem]
 refine SRun.boxR (net_one n) ?_
 intro b1 hb1
 have g1 := upd_same σ b1 (netC n)
 have hσ : ∀ d y, σ d = some y → upd σ b1 (netC n) d = some y := le_upd hb1
 simp (disch := omega) only [go_sem]
 generalize upd σ b1 (netC n) = s1 at *
 refine SRun.allocR ?_
 intro b2 hb2
 have g1' := le_upd (cs := [.isl true 0 [], .isl true 0 [], .isl true 0 [], .isl true 0 [], .isl true 0 [], .isl true 0 []]) hb2 _ _ g1
 have g2 := upd_same s1 b2 [.isl true 0 [], .isl true 0 [], .isl true 0 [], .isl true 0 [], .isl true 0 [], .isl true 0 []]
 have hσ2 : ∀ d y, σ d = some y → upd s1 b2 [.isl true 0 [], .isl true 0 [], .isl true 0 [], .isl true 0 [], .isl true 0 [], .isl true 0 []] d = some y := fun d y h => le_upd hb2 _ _ (hσ d y h)
 simp (disch := omega) only [go_sem]
 generalize upd s1 b2 [.isl true 0 [], .isl true 0 [], .isl true 0 [], .isl true 0 [], .isl true 0 [], .isl true 0 []] = s2 at *
 refine SRun.allocR ?_
 intro b3 hb3
 have n31 : b3 ≠ b1 := fun e => by subst e; rw [g1'] at hb3; cases hb3
 have n32 : b3 ≠ b2 := fun e => by subst e; rw [g2] at hb3; cases hb3
 have f1 : ∀ c, upd s2 b3 c b1 = some (netC n) := fun c => by rw [upd_ne _ _ n31.symm]; exact g1'
 have f2 : ∀ c, upd s2 b3 c b2 = some [.isl true 0 [], .isl true 0 [], .isl true 0 [], .isl true 0 [], .isl true 0 [], .isl true 0 []] := fun c => by rw [upd_ne _ _ n32.symm]; exact g2
 simp (disch := omega) only [f1, e0, go_sem]
 refine SRun.callR (toStringS_ok hn.routers) ⟨[], rfl, rfl⟩ rfl ?_
 simp (disch := omega) only [f1, e1, go_sem]
 refine SRun.callR (toLinkS_ok hn.links) ⟨[], rfl, rfl⟩ rfl ?_
 simp (disch := omega) only [f1, e2, go_sem]
 refine SRun.callR (toIntS_ok hn.origins) ⟨[], rfl, rfl⟩ rfl ?_
 simp (disch := omega) only [f1, e3, go_sem]
 refine SRun.callR (toIntS_ok hn.externals) ⟨[], rfl, rfl⟩ rfl ?_
 simp (disch := omega) only [f1, e4, go_sem]
 refine SRun.callR (toImportS_ok hn.imports) ⟨[], rfl, rfl⟩ rfl ?_
 simp (disch := omega) only [f1, e5, go_sem]
 refine SRun.callR (toFilterS_ok hn.filters) ⟨[], rfl, rfl⟩ rfl ?_
 simp (disch := omega) only [f2, go_sem]
 refine W_retC c48_ok (resV_cellA rfl (upd_same _ _ _) rfl) (Conv.drop _ fun d y hd => ?_) ⟨rfl, rfl⟩
 have hd2 : d ≠ b2 := fun e => by subst e; rw [hσ d y hd] at hb2; cases hb2
 have hd3 : d ≠ b3 := fun e => by subst e; rw [hσ2 d y hd] at hb3; cases hb3
 rw [upd_ne _ _ hd2, upd_ne _ _ hd3]
 exact hσ2 d y hd
end
section
attribute [local irreducible] SRun DS DRun
variable {Γ : St} {σ σ0 : St}
theorem dec_same {α : Type} [DecidableEq α] (a : α) : decide (a = a) = true := decide_eq_true rfl
theorem eqIntS_ok {ex ex2 : Bool} {xs : List Int} (h1 : xs.length ≤ 1048576) : Ret Try.prog Γ 129 [.isl ex 1 (ints xs), .isl ex2 1 (ints xs)] σ (.bool true) σ := by
 refine ret_of c129_ok rfl ?_
 simp (disch := omega) only [c129, dec_same, go_sem]
 refine W_loopC (α := Nat) (fun i => i ≤ xs.length) (fun i => [(0, .isl ex 1 (ints xs)), (1, .isl ex2 1 (ints xs)), (5, .int .i64 (i : Nat))]) (fun i => σ) (fun i => xs.length - i) 0 (by omega) (by simp (disch := omega) only [subT, Int.natCast_add, Int.cast_ofNat_Int, go_sem] <;> (repeat' apply And.intro) <;> first | rfl | (congr 1; omega) | assumption) rfl ?_
 intro i hi ih
 simp (disch := omega) only [go_sem]
 first | refine iteW_dec (fun hq => ?_) (fun hq => ?_) | refine iteW_of (fun hq => ?_) (fun hq => ?_)
 ·simp (disch := omega) only [go_sem]
  refine W_drawW ?_
  simp (disch := omega) only [dec_same, go_sem]
  exact ih (i + 1) _ _ (by omega) (by omega) (by simp (disch := omega) only [subT, Int.natCast_add, Int.cast_ofNat_Int, go_sem] <;> (repeat' apply And.intro) <;> first | rfl | (congr 1; omega) | assumption) rfl
 ·simp (disch := omega) only [go_sem]
  exact W_retR c129_ok rfl ⟨rfl, rfl⟩
theorem eqStringS_ok {ex ex2 : Bool} {xs : List (List UInt8)} (h1 : xs.length ≤ 1048576) : Ret Try.prog Γ 127 [.isl ex 1 (strsV xs), .isl ex2 1 (strsV xs)] σ (.bool true) σ := by
 refine ret_of c127_ok rfl ?_
 simp (disch := omega) only [c127, dec_same, go_sem]
 refine W_loopC (α := Nat) (fun i => i ≤ xs.length) (fun i => [(0, .isl ex 1 (strsV xs)), (1, .isl ex2 1 (strsV xs)), (5, .int .i64 (i : Nat))]) (fun i => σ) (fun i => xs.length - i) 0 (by omega) (by simp (disch := omega) only [subT, Int.natCast_add, Int.cast_ofNat_Int, go_sem] <;> (repeat' apply And.intro) <;> first | rfl | (congr 1; omega) | assumption) rfl ?_
 intro i hi ih
 have hb : ∀ s : List UInt8, (!(s == s)) = false := fun s => by simp
 have hb2 : ∀ s : List UInt8, (s != s) = false := fun s => by simp
 simp (disch := omega) only [go_sem]
 first | refine iteW_dec (fun hq => ?_) (fun hq => ?_) | refine iteW_of (fun hq => ?_) (fun hq => ?_)
 ·simp (disch := omega) only [go_sem]
  refine W_drawW ?_
  simp (disch := omega) only [dec_same, hb, hb2, go_sem]
  exact ih (i + 1) _ _ (by omega) (by omega) (by simp (disch := omega) only [subT, Int.natCast_add, Int.cast_ofNat_Int, go_sem] <;> (repeat' apply And.intro) <;> first | rfl | (congr 1; omega) | assumption) rfl
 ·simp (disch := omega) only [go_sem]
  exact W_retR c127_ok rfl ⟨rfl, rfl⟩
theorem eqLink_ok {x : Link} : Ret Try.prog Γ 191 [.agg (linkC x), .agg (linkC x)] σ (.bool true) σ := by
 have hone : ∀ c ∈ (V.agg (linkC x)).cells, c.one = true := by simp [linkC, V.cells, V.one]
 have hdef : linkC x = _ := rfl
 refine ret_of c191_ok rfl ?_
 simp (disch := omega) only [c191, go_sem]
 refine SRun.boxR hone ?_
 intro b1 hb1
 have g1 := upd_same σ b1 (linkC x)
 have hσ : ∀ d y, σ d = some y → upd σ b1 (linkC x) d = some y := le_upd hb1
 simp (disch := omega) only [go_sem]
 generalize upd σ b1 (linkC x) = s1 at *
 refine SRun.boxR hone ?_
 intro b2 hb2
 have f1 := le_upd (cs := linkC x) hb2 _ _ g1
 have f2 := upd_same s1 b2 (linkC x)
 have hσ2 : ∀ d y, σ d = some y → upd s1 b2 (linkC x) d = some y := fun d y h => le_upd hb2 _ _ (hσ d y h)
 simp (disch := omega) only [go_sem]
 generalize upd s1 b2 (linkC x) = s2 at *
 simp (disch := omega) only [f1, f2, dec_same, linkC, go_sem]
 exact W_retC c191_ok rfl (Conv.drop _ hσ2) ⟨rfl, rfl⟩
theorem eqLinkS_ok {ex ex2 : Bool} {xs : List Link} (h1 : xs.length ≤ 1048576) : Ret Try.prog Γ 128 [.isl ex 3 (linksV xs), .isl ex2 3 (linksV xs)] σ (.bool true) σ := by
 refine ret_of c128_ok rfl ?_
 simp (disch := omega) only [c128, dec_same, go_sem]
 refine W_loopC (α := Nat) (fun i => i ≤ xs.length) (fun i => [(0, .isl ex 3 (linksV xs)), (1, .isl ex2 3 (linksV xs)), (5, .int .i64 (i : Nat))]) (fun i => σ) (fun i => xs.length - i) 0 (by omega) (by simp (disch := omega) only [subT, Int.natCast_add, Int.cast_ofNat_Int, go_sem] <;> (repeat' apply And.intro) <;> first | rfl | (congr 1; omega) | assumption) rfl ?_
 intro i hi ih
 simp (disch := omega) only [go_sem]
 first | refine iteW_dec (fun hq => ?_) (fun hq => ?_) | refine iteW_of (fun hq => ?_) (fun hq => ?_)
 ·have htk : (linkC (xs.getD i default)).take 3 = linkC (xs.getD i default) := rfl
  have hln : (linkC (xs.getD i default)).length = 3 := rfl
  simp (disch := omega) only [go_sem]
  refine W_drawW ?_
  simp (disch := omega) only [htk, hln, go_sem]
  refine DRun.callQ (eqLink_ok) ⟨[], rfl, rfl⟩ ?_
  rintro r s ⟨rfl, hs⟩
  obtain rfl := hs.symm
  simp (disch := omega) only [go_sem]
  exact ih (i + 1) _ _ (by omega) (by omega) (by simp (disch := omega) only [subT, Int.natCast_add, Int.cast_ofNat_Int, go_sem] <;> (repeat' apply And.intro) <;> first | rfl | (congr 1; omega) | assumption) rfl
 ·simp (disch := omega) only [go_sem]
  exact W_retR c128_ok rfl ⟨rfl, rfl⟩
theorem eqImport_ok {x : Imp} : Ret Try.prog Γ 192 [.agg (impC x), .agg (impC x)] σ (.bool true) σ := by
 have hone : ∀ c ∈ (V.agg (impC x)).cells, c.one = true := by simp [impC, V.cells, V.one]
 have hdef : impC x = _ := rfl
 refine ret_of c192_ok rfl ?_
 simp (disch := omega) only [c192, go_sem]
 refine SRun.boxR hone ?_
 intro b1 hb1
 have g1 := upd_same σ b1 (impC x)
 have hσ : ∀ d y, σ d = some y → upd σ b1 (impC x) d = some y := le_upd hb1
 simp (disch := omega) only [go_sem]
 generalize upd σ b1 (impC x) = s1 at *
 refine SRun.boxR hone ?_
 intro b2 hb2
 have f1 := le_upd (cs := impC x) hb2 _ _ g1
 have f2 := upd_same s1 b2 (impC x)
 have hσ2 : ∀ d y, σ d = some y → upd s1 b2 (impC x) d = some y := fun d y h => le_upd hb2 _ _ (hσ d y h)
 simp (disch := omega) only [go_sem]
 generalize upd s1 b2 (impC x) = s2 at *
 simp (disch := omega) only [f1, f2, dec_same, impC, go_sem]
 exact W_retC c192_ok rfl (Conv.drop _ hσ2) ⟨rfl, rfl⟩
theorem eqImportS_ok {ex ex2 : Bool} {xs : List Imp} (h1 : xs.length ≤ 1048576) : Ret Try.prog Γ 130 [.isl ex 5 (impsV xs), .isl ex2 5 (impsV xs)] σ (.bool true) σ := by
 refine ret_of c130_ok rfl ?_
 simp (disch := omega) only [c130, dec_same, go_sem]
 refine W_loopC (α := Nat) (fun i => i ≤ xs.length) (fun i => [(0, .isl ex 5 (impsV xs)), (1, .isl ex2 5 (impsV xs)), (5, .int .i64 (i : Nat))]) (fun i => σ) (fun i => xs.length - i) 0 (by omega) (by simp (disch := omega) only [subT, Int.natCast_add, Int.cast_ofNat_Int, go_sem] <;> (repeat' apply And.intro) <;> first | rfl | (congr 1; omega) | assumption) rfl ?_
 intro i hi ih
 simp (disch := omega) only [go_sem]
 first | refine iteW_dec (fun hq => ?_) (fun hq => ?_) | refine iteW_of (fun hq => ?_) (fun hq => ?_)
 ·have htk : (impC (xs.getD i default)).take 5 = impC (xs.getD i default) := rfl
  have hln : (impC (xs.getD i default)).length = 5 := rfl
  simp (disch := omega) only [go_sem]
  refine W_drawW ?_
  simp (disch := omega) only [htk, hln, go_sem]
  refine DRun.callQ (eqImport_ok) ⟨[], rfl, rfl⟩ ?_
  rintro r s ⟨rfl, hs⟩
  obtain rfl := hs.symm
  simp (disch := omega) only [go_sem]
  exact ih (i + 1) _ _ (by omega) (by omega) (by simp (disch := omega) only [subT, Int.natCast_add, Int.cast_ofNat_Int, go_sem] <;> (repeat' apply And.intro) <;> first | rfl | (congr 1; omega) | assumption) rfl
 ·simp (disch := omega) only [go_sem]
  exact W_retR c130_ok rfl ⟨rfl, rfl⟩
theorem eqFilter_ok {x : Fil} : Ret Try.prog Γ 193 [.agg (filC x), .agg (filC x)] σ (.bool true) σ := by
 have hone : ∀ c ∈ (V.agg (filC x)).cells, c.one = true := by simp [filC, V.cells, V.one]
 have hdef : filC x = _ := rfl
 refine ret_of c193_ok rfl ?_
 simp (disch := omega) only [c193, go_sem]
 refine SRun.boxR hone ?_
 intro b1 hb1
 have g1 := upd_same σ b1 (filC x)
 have hσ : ∀ d y, σ d = some y → upd σ b1 (filC x) d = some y := le_upd hb1
 simp (disch := omega) only [go_sem]
 generalize upd σ b1 (filC x) = s1 at *
 refine SRun.boxR hone ?_
 intro b2 hb2
 have f1 := le_upd (cs := filC x) hb2 _ _ g1
 have f2 := upd_same s1 b2 (filC x)
 have hσ2 : ∀ d y, σ d = some y → upd s1 b2 (filC x) d = some y := fun d y h => le_upd hb2 _ _ (hσ d y h)
 simp (disch := omega) only [go_sem]
 generalize upd s1 b2 (filC x) = s2 at *
 simp (disch := omega) only [f1, f2, dec_same, filC, go_sem]
 exact W_retC c193_ok rfl (Conv.drop _ hσ2) ⟨rfl, rfl⟩
theorem eqFilterS_ok {ex ex2 : Bool} {xs : List Fil} (h1 : xs.length ≤ 1048576) : Ret Try.prog Γ 131 [.isl ex 4 (filsV xs), .isl ex2 4 (filsV xs)] σ (.bool true) σ := by
 refine ret_of c131_ok rfl ?_
 simp (disch := omega) only [c131, dec_same, go_sem]
 refine W_loopC (α := Nat) (fun i => i ≤ xs.length) (fun i => [(0, .isl ex 4 (filsV xs)), (1, .isl ex2 4 (filsV xs)), (5, .int .i64 (i : Nat))]) (fun i => σ) (fun i => xs.length - i) 0 (by omega) (by simp (disch := omega) only [subT, Int.natCast_add, Int.cast_ofNat_Int, go_sem] <;> (repeat' apply And.intro) <;> first | rfl | (congr 1; omega) | assumption) rfl ?_
 intro i hi ih
 simp (disch := omega) only [go_sem]
 first | refine iteW_dec (fun hq => ?_) (fun hq => ?_) | refine iteW_of (fun hq => ?_) (fun hq => ?_)
 ·have htk : (filC (xs.getD i default)).take 4 = filC (xs.getD i default) := rfl
  have hln : (filC (xs.getD i default)).length = 4 := rfl
  simp (disch := omega) only [go_sem]
  refine W_drawW ?_
  simp (disch := omega) only [htk, hln, go_sem]
  refine DRun.callQ (eqFilter_ok) ⟨[], rfl, rfl⟩ ?_
  rintro r s ⟨rfl, hs⟩
  obtain rfl := hs.symm
  simp (disch := omega) only [go_sem]
  exact ih (i + 1) _ _ (by omega) (by omega) (by simp (disch := omega) only [subT, Int.natCast_add, Int.cast_ofNat_Int, go_sem] <;> (repeat' apply And.intro) <;> first | rfl | (congr 1; omega) | assumption) rfl
 ·simp (disch := omega) only [go_sem]
  exact W_retR c131_ok rfl ⟨rfl, rfl⟩
theorem eqNet_ok {n : Net} (hn : NetFew n) : Ret Try.prog Γ 49 [netV n, netV n] σ (.bool true) σ := by
 have e0 : (netC n)[0]? = some (.isl false 1 (strsV n.routers)) := rfl
 have e1 : (netC n)[1]? = some (.isl false 3 (linksV n.links)) := rfl
 have e2 : (netC n)[2]? = some (.isl false 1 (ints n.origins)) := rfl
 have e3 : (netC n)[3]? = some (.isl false 1 (ints n.externals)) := rfl
 have e4 : (netC n)[4]? = some (.isl false 5 (impsV n.imports)) := rfl
 have e5 : (netC n)[5]? = some (.isl false 4 (filsV n.filters)) := rfl
 refine ret_of c49_ok rfl ?_
 simp (disch := omega) only [c49, netV, go_sem]
 refine SRun.boxR (net_one n) ?_
 intro b1 hb1
 have g1 := upd_same σ b1 (netC n)
 have hσ : ∀ d y, σ d = some y → upd σ b1 (netC n) d = some y := le_upd hb1
 simp (disch := omega) only [go_sem]
 generalize upd σ b1 (netC n) = s1 at *
 refine SRun.boxR (net_one n) ?_
 intro b2 hb2
 have f1 := le_upd (cs := netC n) hb2 _ _ g1
 have f2 := upd_same s1 b2 (netC n)
 have hσ2 : ∀ d y, σ d = some y → upd s1 b2 (netC n) d = some y := fun d y h => le_upd hb2 _ _ (hσ d y h)
 simp (disch := omega) only [go_sem]
 generalize upd s1 b2 (netC n) = s2 at *
 simp (disch := omega) only [f1, f2, e0, go_sem]
 refine SRun.callR (eqStringS_ok hn.routers) ⟨[], rfl, rfl⟩ rfl ?_
 simp (disch := omega) only [f1, f2, e1, go_sem]
 refine SRun.callR (eqLinkS_ok hn.links) ⟨[], rfl, rfl⟩ rfl ?_
 simp (disch := omega) only [f1, f2, e2, go_sem]
 refine SRun.callR (eqIntS_ok hn.origins) ⟨[], rfl, rfl⟩ rfl ?_
 simp (disch := omega) only [f1, f2, e3, go_sem]
 refine SRun.callR (eqIntS_ok hn.externals) ⟨[], rfl, rfl⟩ rfl ?_
 simp (disch := omega) only [f1, f2, e4, go_sem]
 refine SRun.callR (eqImportS_ok hn.imports) ⟨[], rfl, rfl⟩ rfl ?_
 simp (disch := omega) only [f1, f2, e5, go_sem]
 refine SRun.callR (eqFilterS_ok hn.filters) ⟨[], rfl, rfl⟩ rfl ?_
 simp (disch := omega) only [go_sem]
 exact W_retC c49_ok rfl (Conv.drop _ hσ2) ⟨rfl, rfl⟩
end
section
attribute [local irreducible] SRun DS DRun
variable {Γ : St} {σ σ0 : St}
theorem none_of {s t : St} (h : ∀ b c, s b = some c → t b = some c) : ∀ b, t b = none → s b = none := fun b hb => by
 cases e : s b with
 | none => rfl
 | some c => rw [h b c e] at hb; cases hb
def blk : V → Option Nat
 | .msl b _ _ _ _ => some b
 | _ => none
/-- A list that is owned, and what it holds. -/
def At (σ : St) (es : Nat) (xs : List V) (q : V) : Prop := (∀ x ∈ xs, x.cells.length = es ∧ ∀ c ∈ x.cells, c.one = true) ∧ ((xs = [] ∧ ∃ es', q = .isl true es' []) ∨ ∃ b cap, q = .msl b es 0 xs.length cap ∧ σ b = some (flat xs))
def wrt (σ : St) (q : V) (cs : List V) : St := match q with
 | .msl b _ _ _ _ => upd σ b cs
 | _ => σ
theorem wrt_ne {q : V} {cs : List V} {d : Nat} (h : blk q ≠ some d) : wrt σ q cs d = σ d := by
 cases q <;> first | rfl | (simp only [wrt]; exact upd_ne _ _ (fun e => h (by rw [e]; rfl)))
theorem At.one {es : Nat} {xs : List V} {q : V} (h : At σ es xs q) : q.one = true := by
 rcases h.2 with ⟨_, _, rfl⟩ | ⟨_, _, rfl, _⟩ <;> rfl
theorem At.cells {es : Nat} {xs : List V} {q : V} (h : At σ es xs q) : q.cells = [q] := by
 rcases h.2 with ⟨_, _, rfl⟩ | ⟨_, _, rfl, _⟩ <;> rfl
theorem At.has {es : Nat} {xs : List V} {q : V} (h : At σ es xs q) {b : Nat} (hb : blk q = some b) : σ b = some (flat xs) := by
 rcases h.2 with ⟨_, _, rfl⟩ | ⟨_, _, rfl, h2⟩
 ·cases hb
 ·simp only [blk, Option.some.injEq] at hb; subst hb; exact h2
theorem At.to {es : Nat} {xs : List V} {q : V} (h : At σ es xs q) {s : St} (hs : ∀ b, blk q = some b → s b = σ b) : At s es xs q := by
 refine ⟨h.1, ?_⟩
 rcases h.2 with h2 | ⟨b, cap, rfl, h2⟩
 ·exact .inl h2
 ·exact .inr ⟨b, cap, rfl, by rw [hs b rfl]; exact h2⟩
theorem At.mono {es : Nat} {xs : List V} {q : V} (h : At σ es xs q) {s : St} (hs : ∀ b c, σ b = some c → s b = some c) : At s es xs q :=
 h.to fun b hb => by rw [hs b _ (h.has hb), h.has hb]
theorem At.frz {es : Nat} {xs : List V} {q : V} {s : St} (h : At σ es xs q) (hs : ∀ b, blk q = some b → s b = none) : Frz σ s q (.isl false es xs) := by
 obtain ⟨hx, h2⟩ := h
 rcases h2 with ⟨rfl, es', rfl⟩ | ⟨b, cap, rfl, h3⟩
 ·exact .isl0 _ _ _ _ (fun h => by cases h)
 ·refine .msl b es 0 xs.length cap (flat xs) xs h3 (hs b rfl) (by rw [flat_length fun x hx' => (hx x hx').1]; omega) rfl (fun x hm => (hx x hm).1) (flat_length fun x hx' => (hx x hx').1) (fun i x hi => flat_ones (fun x hm => (hx x hm).2) x (List.mem_of_getElem? hi)) (fun i x y hy hx' => ?_)
  rw [Nat.zero_add] at hy
  rw [hy] at hx'; obtain rfl := Option.some.inj hx'; exact .refl _
theorem At.lend {es : Nat} {xs : List V} {q : V} (h : At σ es xs q) : Frz σ emp q (.isl false es xs) := h.frz fun _ _ => rfl
theorem OwnL.atQ {es : Nat} {xs : List V} {q : V} (h : OwnL σ0 es xs q σ) : At σ es xs q ∧ ∀ b, blk q = some b → σ0 b = none := by
 obtain ⟨h1, h2⟩ := h
 rcases h1 with ⟨hc, hl, rfl, es', rfl⟩ | ⟨b2, cap, hb, rfl, rfl, h4⟩
 ·exact ⟨⟨h2, .inl ⟨List.eq_nil_of_length_eq_zero hl, es', rfl⟩⟩, fun b hb => by cases hb⟩
 ·exact ⟨⟨h2, .inr ⟨b2, cap, rfl, upd_same _ _ _⟩⟩, fun b hb' => by simp only [blk, Option.some.injEq] at hb'; subst hb'; exact hb⟩
theorem Frz.more {σ σ' s : St} {x y : V} (h : Frz σ σ' x y) (hs : ∀ b c, σ b = some c → s b = some c) : Frz s σ' x y := by
 induction h with
 | refl v => exact .refl v
 | isl ex es xs => exact .isl ex es xs
 | isl0 ex ex2 es es' h => exact .isl0 ex ex2 es es' h
 | msl b es off len cap cs xs hb hb' h1 h2 h3 h4 h5 _ ih => exact .msl b es off len cap cs xs (hs _ _ hb) hb' h1 h2 h3 h4 h5 ih
 | agg cs ds h1 h2 _ ih => exact .agg cs ds h1 h2 ih
 | tup cs ds h1 _ ih => exact .tup cs ds h1 ih
section
variable {P : Program} {σr : St} {T : Ts}
/-- A call in a part that draws, of a function that owns nothing of its own: it is lent what it reads, of all that there is. -/
theorem WrA.lend {d : Option Nat} {x : Opd} {us : List Opd} {g : FuncId} {vs vs' : List V} {Q : V → St → Prop} (h : ACalls P Γ g vs' emp Q) (hfz : disj σ σr → frzL (cup σ σr) emp vs vs') (hQ : ∀ r s, Q r s → Plain r ∧ ∀ b cs, s b = some cs → ∀ c ∈ cs, Plain c)
  (hv : ∃ caps, ev Γ T x = .fn g caps ∧ us.map (ev Γ T) ++ caps = vs) : WrA P Γ σr σ T ⟨d, none, .call x us⟩ fun r s => ∃ s', s = cup s' σ ∧ disj s' σ ∧ disj s' σr ∧ Q r s' := by
 obtain ⟨caps, h1, h2⟩ := hv
 refine .inr ⟨rfl, fun T' hT hd => ?_⟩
 have he := ev_congr (Γ := Γ) (g := ⟨d, none, .call x us⟩) hT
 have hm : us.map (ev Γ T') = us.map (ev Γ T) := List.map_congr_left fun o ho => he o (by simp [I.opds, ho])
 refine InsOK.call (g := g) (caps := caps) (by rw [he x (by simp [I.opds])]; exact h1) ?_
 rw [hm, h2]
 refine ACalls.mono P Γ (ACalls.lend (σ := cup σ σr) h (frzL_len (hfz hd)) (frzL_get (hfz hd)) hQ) ?_
 rintro r s ⟨s', rfl, hd2, hq⟩
 have hd3 : disj s' σ := fun n => by
  rcases hd2 n with h | h
  ·exact .inl h
  ·right
   cases e : σ n with
   | none => rfl
   | some c => rw [cup_of_some e] at h; cases h
 have hd4 : disj s' σr := fun n => by
  rcases hd2 n with h | h
  ·exact .inl h
  ·right
   cases e : σ n with
   | none => simpa [cup, e] using h
   | some c => rw [cup_of_some e] at h; cases h
 refine ⟨cup s' σ, by rw [cup_assoc], fun n => ?_, s', rfl, hd3, hd4, hq⟩
 rcases hd4 n with h | h
 ·rcases hd n with h2 | h2
  ·exact .inl (by simp [cup, h, h2])
  ·exact .inr h2
 ·exact .inr h
end
end
section
attribute [local irreducible] SRun DS DRun
variable {Γ : St} {σ σ0 : St}
theorem own_part {z : List V} {xs : List V} {N es b : Nat} {s : St} (h : ∀ x ∈ xs, x.cells.length = es ∧ ∀ c ∈ x.cells, c.one = true) (hl : xs.length = N) (hb : s b = none) :
  OwnL s es xs (.msl b es 0 N N) (upd s b (partR z xs N N)) := by
 rw [partR_all hl]
 exact ⟨.inr ⟨b, N, hb, by rw [hl], rfl, flat_len (fun x hx => (h x hx).1), by omega⟩, h⟩
theorem toIntS_own {ex : Bool} {xs : List (Int)} (h1 : xs.length ≤ 1048576) : ACalls Try.prog Γ 124 [.isl ex 1 (ints xs)] σ fun r s => OwnL σ 1 (ints xs) r s := by
 have hc : ∀ x ∈ ints xs, x.cells.length = 1 ∧ ∀ c ∈ x.cells, c.one = true := one_cell (fun x hx => by obtain ⟨y, _, rfl⟩ := List.mem_map.1 hx; rfl)
 have hc1 := fun x hx => (hc x hx).1
 have hl : (ints xs).length = xs.length := ints_len xs
 refine acalls_W c124_ok rfl ?_
 simp (disch := omega) only [c124, go_sem]
 refine SRun.mkslR (n' := xs.length) (m := xs.length) rfl rfl rfl (Nat.le_refl _) (by omega) (by omega) ?_
 intro b hb
 simp (disch := omega) only [go_sem]
 refine W_loopC (α := Nat) (fun i => i ≤ xs.length) (fun i => [(0, .isl ex 1 (ints xs)), (3, .msl b 1 0 xs.length xs.length), (4, .int .i64 (i : Nat))]) (fun i => upd σ b (partR [V.int .i64 0] (ints xs) xs.length i)) (fun i => xs.length - i) 0 (by omega) (by simp (disch := omega) only [subT, Int.natCast_add, Int.cast_ofNat_Int, go_sem] <;> (repeat' apply And.intro) <;> first | rfl | (congr 1; omega) | assumption) (by rw [partR_zero]) ?_
 intro i hi ih
 have hpl := partR_len (z := [V.int .i64 0]) hc1 rfl hl hi
 have g1 := upd_same σ b (partR [V.int .i64 0] (ints xs) xs.length i)
 simp (disch := omega) only [go_sem]
 first | refine iteW_dec (fun hq => ?_) (fun hq => ?_) | refine iteW_of (fun hq => ?_) (fun hq => ?_)
 ·simp (disch := omega) only [g1, hpl, go_sem]
  have hx : (ints xs)[i]? = some (V.int .i64 (xs.getD i 0)) := by
   rw [ints, List.getElem?_map, List.getElem?_eq_getElem (by omega)]; simp [List.getD, show i < xs.length by omega]
  have hs : (partR [V.int .i64 0] (ints xs) xs.length i).set i (V.int .i64 (xs.getD i 0)) = partR [V.int .i64 0] (ints xs) xs.length (i + 1) := by
   have := partR_set (z := [V.int .i64 0]) hc1 rfl hl hx
   rw [Nat.mul_one] at this
   exact this
  rw [hs]
  exact ih (i + 1) _ _ (by omega) (by omega) (by simp (disch := omega) only [subT, Int.natCast_add, Int.cast_ofNat_Int, go_sem] <;> (repeat' apply And.intro) <;> first | rfl | (congr 1; omega) | assumption) rfl
 ·obtain rfl : i = xs.length := by omega
  simp (disch := omega) only [go_sem]
  exact W_retR c124_ok rfl (own_part hc hl hb)
theorem toStringS_own {ex : Bool} {xs : List (List UInt8)} (h1 : xs.length ≤ 1048576) : ACalls Try.prog Γ 122 [.isl ex 1 (strsV xs)] σ fun r s => OwnL σ 1 (strsV xs) r s := by
 have hc : ∀ x ∈ strsV xs, x.cells.length = 1 ∧ ∀ c ∈ x.cells, c.one = true := one_cell (fun x hx => by obtain ⟨y, _, rfl⟩ := List.mem_map.1 hx; rfl)
 have hc1 := fun x hx => (hc x hx).1
 have hl : (strsV xs).length = xs.length := strsV_len xs
 refine acalls_W c122_ok rfl ?_
 simp (disch := omega) only [c122, go_sem]
 refine SRun.mkslR (n' := xs.length) (m := xs.length) rfl rfl rfl (Nat.le_refl _) (by omega) (by omega) ?_
 intro b hb
 simp (disch := omega) only [go_sem]
 refine W_loopC (α := Nat) (fun i => i ≤ xs.length) (fun i => [(0, .isl ex 1 (strsV xs)), (3, .msl b 1 0 xs.length xs.length), (4, .int .i64 (i : Nat))]) (fun i => upd σ b (partR [V.str []] (strsV xs) xs.length i)) (fun i => xs.length - i) 0 (by omega) (by simp (disch := omega) only [subT, Int.natCast_add, Int.cast_ofNat_Int, go_sem] <;> (repeat' apply And.intro) <;> first | rfl | (congr 1; omega) | assumption) (by rw [partR_zero]) ?_
 intro i hi ih
 have hpl := partR_len (z := [V.str []]) hc1 rfl hl hi
 have g1 := upd_same σ b (partR [V.str []] (strsV xs) xs.length i)
 simp (disch := omega) only [go_sem]
 first | refine iteW_dec (fun hq => ?_) (fun hq => ?_) | refine iteW_of (fun hq => ?_) (fun hq => ?_)
 ·simp (disch := omega) only [g1, hpl, go_sem]
  have hx : (strsV xs)[i]? = some (V.str (xs.getD i [])) := by
   rw [strsV, List.getElem?_map, List.getElem?_eq_getElem (by omega)]; simp [List.getD, show i < xs.length by omega]
  have hs : (partR [V.str []] (strsV xs) xs.length i).set i (V.str (xs.getD i [])) = partR [V.str []] (strsV xs) xs.length (i + 1) := by
   have := partR_set (z := [V.str []]) hc1 rfl hl hx
   rw [Nat.mul_one] at this
   exact this
  rw [hs]
  exact ih (i + 1) _ _ (by omega) (by omega) (by simp (disch := omega) only [subT, Int.natCast_add, Int.cast_ofNat_Int, go_sem] <;> (repeat' apply And.intro) <;> first | rfl | (congr 1; omega) | assumption) rfl
 ·obtain rfl : i = xs.length := by omega
  simp (disch := omega) only [go_sem]
  exact W_retR c122_ok rfl (own_part hc hl hb)
theorem toLinkS_own {ex : Bool} {xs : List (Link)} (h1 : xs.length ≤ 1048576) : ACalls Try.prog Γ 123 [.isl ex 3 (linksV xs)] σ fun r s => OwnL σ 3 (linksV xs) r s := by
 have hc : ∀ x ∈ linksV xs, x.cells.length = 3 ∧ ∀ c ∈ x.cells, c.one = true := fun x hx => by obtain ⟨y, _, rfl⟩ := List.mem_map.1 hx; simp [linkC, V.cells, V.one]
 have hc1 := fun x hx => (hc x hx).1
 have hl : (linksV xs).length = xs.length := linksV_len xs
 refine acalls_W c123_ok rfl ?_
 simp (disch := omega) only [c123, go_sem]
 refine SRun.mkslR (n' := xs.length) (m := xs.length) rfl rfl rfl (Nat.le_refl _) (by omega) (by omega) ?_
 intro b hb
 simp (disch := omega) only [go_sem]
 refine W_loopC (α := Nat) (fun i => i ≤ xs.length) (fun i => [(0, .isl ex 3 (linksV xs)), (3, .msl b 3 0 xs.length xs.length), (4, .int .i64 (i : Nat))]) (fun i => upd σ b (partR [.int .i64 0, .int .i64 0, .int .i64 0] (linksV xs) xs.length i)) (fun i => xs.length - i) 0 (by omega) (by simp (disch := omega) only [subT, Int.natCast_add, Int.cast_ofNat_Int, go_sem] <;> (repeat' apply And.intro) <;> first | rfl | (congr 1; omega) | assumption) (by rw [partR_zero]) ?_
 intro i hi ih
 have hpl := partR_len (z := [.int .i64 0, .int .i64 0, .int .i64 0]) hc1 rfl hl hi
 have g1 := upd_same σ b (partR [.int .i64 0, .int .i64 0, .int .i64 0] (linksV xs) xs.length i)
 simp (disch := omega) only [go_sem]
 first | refine iteW_dec (fun hq => ?_) (fun hq => ?_) | refine iteW_of (fun hq => ?_) (fun hq => ?_)
 ·have htk : (linkC (xs.getD i default)).take 3 = linkC (xs.getD i default) := rfl
  have hln : (linkC (xs.getD i default)).length = 3 := rfl
  have hone : (∀ c, c ∈ linkC (xs.getD i default) → c.one = true) = True := eq_true (by simp [linkC, V.one])
  simp (disch := omega) only [htk, hln, go_sem]
  refine SRun.callR (toLink_ok) ⟨[], rfl, rfl⟩ rfl ?_
  simp (disch := omega) only [List.getD_cons_zero, List.getD_cons_succ, go_sem]
  simp (disch := omega) only [g1, hpl, hln, hone, go_sem]
  have hx : (linksV xs)[i]? = some (.agg (linkC (xs.getD i default))) := by
   rw [linksV, List.getElem?_map, List.getElem?_eq_getElem (by omega)]; simp [List.getD, show i < xs.length by omega]
  have hs : sets (partR [.int .i64 0, .int .i64 0, .int .i64 0] (linksV xs) xs.length i) (i * 3) (linkC (xs.getD i default)) = partR [.int .i64 0, .int .i64 0, .int .i64 0] (linksV xs) xs.length (i + 1) := partR_set (z := [.int .i64 0, .int .i64 0, .int .i64 0]) hc1 rfl hl hx
  rw [hs]
  exact ih (i + 1) _ _ (by omega) (by omega) (by simp (disch := omega) only [subT, Int.natCast_add, Int.cast_ofNat_Int, go_sem] <;> (repeat' apply And.intro) <;> first | rfl | (congr 1; omega) | assumption) rfl
 ·obtain rfl : i = xs.length := by omega
  simp (disch := omega) only [go_sem]
  exact W_retR c123_ok rfl (own_part hc hl hb)
theorem toImportS_own {ex : Bool} {xs : List (Imp)} (h1 : xs.length ≤ 1048576) : ACalls Try.prog Γ 125 [.isl ex 5 (impsV xs)] σ fun r s => OwnL σ 5 (impsV xs) r s := by
 have hc : ∀ x ∈ impsV xs, x.cells.length = 5 ∧ ∀ c ∈ x.cells, c.one = true := fun x hx => by obtain ⟨y, _, rfl⟩ := List.mem_map.1 hx; simp [impC, V.cells, V.one]
 have hc1 := fun x hx => (hc x hx).1
 have hl : (impsV xs).length = xs.length := impsV_len xs
 refine acalls_W c125_ok rfl ?_
 simp (disch := omega) only [c125, go_sem]
 refine SRun.mkslR (n' := xs.length) (m := xs.length) rfl rfl rfl (Nat.le_refl _) (by omega) (by omega) ?_
 intro b hb
 simp (disch := omega) only [go_sem]
 refine W_loopC (α := Nat) (fun i => i ≤ xs.length) (fun i => [(0, .isl ex 5 (impsV xs)), (3, .msl b 5 0 xs.length xs.length), (4, .int .i64 (i : Nat))]) (fun i => upd σ b (partR [.int .i64 0, .int .i64 0, .int .i64 0, .int .i64 0, .int .i64 0] (impsV xs) xs.length i)) (fun i => xs.length - i) 0 (by omega) (by simp (disch := omega) only [subT, Int.natCast_add, Int.cast_ofNat_Int, go_sem] <;> (repeat' apply And.intro) <;> first | rfl | (congr 1; omega) | assumption) (by rw [partR_zero]) ?_
 intro i hi ih
 have hpl := partR_len (z := [.int .i64 0, .int .i64 0, .int .i64 0, .int .i64 0, .int .i64 0]) hc1 rfl hl hi
 have g1 := upd_same σ b (partR [.int .i64 0, .int .i64 0, .int .i64 0, .int .i64 0, .int .i64 0] (impsV xs) xs.length i)
 simp (disch := omega) only [go_sem]
 first | refine iteW_dec (fun hq => ?_) (fun hq => ?_) | refine iteW_of (fun hq => ?_) (fun hq => ?_)
 ·have htk : (impC (xs.getD i default)).take 5 = impC (xs.getD i default) := rfl
  have hln : (impC (xs.getD i default)).length = 5 := rfl
  have hone : (∀ c, c ∈ impC (xs.getD i default) → c.one = true) = True := eq_true (by simp [impC, V.one])
  simp (disch := omega) only [htk, hln, go_sem]
  refine SRun.callR (toImport_ok) ⟨[], rfl, rfl⟩ rfl ?_
  simp (disch := omega) only [List.getD_cons_zero, List.getD_cons_succ, go_sem]
  simp (disch := omega) only [g1, hpl, hln, hone, go_sem]
  have hx : (impsV xs)[i]? = some (.agg (impC (xs.getD i default))) := by
   rw [impsV, List.getElem?_map, List.getElem?_eq_getElem (by omega)]; simp [List.getD, show i < xs.length by omega]
  have hs : sets (partR [.int .i64 0, .int .i64 0, .int .i64 0, .int .i64 0, .int .i64 0] (impsV xs) xs.length i) (i * 5) (impC (xs.getD i default)) = partR [.int .i64 0, .int .i64 0, .int .i64 0, .int .i64 0, .int .i64 0] (impsV xs) xs.length (i + 1) := partR_set (z := [.int .i64 0, .int .i64 0, .int .i64 0, .int .i64 0, .int .i64 0]) hc1 rfl hl hx
  rw [hs]
  exact ih (i + 1) _ _ (by omega) (by omega) (by simp (disch := omega) only [subT, Int.natCast_add, Int.cast_ofNat_Int, go_sem] <;> (repeat' apply And.intro) <;> first | rfl | (congr 1; omega) | assumption) rfl
 ·obtain rfl : i = xs.length := by omega
  simp (disch := omega) only [go_sem]
  exact W_retR c125_ok rfl (own_part hc hl hb)
theorem toFilterS_own {ex : Bool} {xs : List (Fil)} (h1 : xs.length ≤ 1048576) : ACalls Try.prog Γ 126 [.isl ex 4 (filsV xs)] σ fun r s => OwnL σ 4 (filsV xs) r s := by
 have hc : ∀ x ∈ filsV xs, x.cells.length = 4 ∧ ∀ c ∈ x.cells, c.one = true := fun x hx => by obtain ⟨y, _, rfl⟩ := List.mem_map.1 hx; simp [filC, V.cells, V.one]
 have hc1 := fun x hx => (hc x hx).1
 have hl : (filsV xs).length = xs.length := filsV_len xs
 refine acalls_W c126_ok rfl ?_
 simp (disch := omega) only [c126, go_sem]
 refine SRun.mkslR (n' := xs.length) (m := xs.length) rfl rfl rfl (Nat.le_refl _) (by omega) (by omega) ?_
 intro b hb
 simp (disch := omega) only [go_sem]
 refine W_loopC (α := Nat) (fun i => i ≤ xs.length) (fun i => [(0, .isl ex 4 (filsV xs)), (3, .msl b 4 0 xs.length xs.length), (4, .int .i64 (i : Nat))]) (fun i => upd σ b (partR [.int .i64 0, .int .i64 0, .int .i64 0, .int .i64 0] (filsV xs) xs.length i)) (fun i => xs.length - i) 0 (by omega) (by simp (disch := omega) only [subT, Int.natCast_add, Int.cast_ofNat_Int, go_sem] <;> (repeat' apply And.intro) <;> first | rfl | (congr 1; omega) | assumption) (by rw [partR_zero]) ?_
 intro i hi ih
 have hpl := partR_len (z := [.int .i64 0, .int .i64 0, .int .i64 0, .int .i64 0]) hc1 rfl hl hi
 have g1 := upd_same σ b (partR [.int .i64 0, .int .i64 0, .int .i64 0, .int .i64 0] (filsV xs) xs.length i)
 simp (disch := omega) only [go_sem]
 first | refine iteW_dec (fun hq => ?_) (fun hq => ?_) | refine iteW_of (fun hq => ?_) (fun hq => ?_)
 ·have htk : (filC (xs.getD i default)).take 4 = filC (xs.getD i default) := rfl
  have hln : (filC (xs.getD i default)).length = 4 := rfl
  have hone : (∀ c, c ∈ filC (xs.getD i default) → c.one = true) = True := eq_true (by simp [filC, V.one])
  simp (disch := omega) only [htk, hln, go_sem]
  refine SRun.callR (toFilter_ok) ⟨[], rfl, rfl⟩ rfl ?_
  simp (disch := omega) only [List.getD_cons_zero, List.getD_cons_succ, go_sem]
  simp (disch := omega) only [g1, hpl, hln, hone, go_sem]
  have hx : (filsV xs)[i]? = some (.agg (filC (xs.getD i default))) := by
   rw [filsV, List.getElem?_map, List.getElem?_eq_getElem (by omega)]; simp [List.getD, show i < xs.length by omega]
  have hs : sets (partR [.int .i64 0, .int .i64 0, .int .i64 0, .int .i64 0] (filsV xs) xs.length i) (i * 4) (filC (xs.getD i default)) = partR [.int .i64 0, .int .i64 0, .int .i64 0, .int .i64 0] (filsV xs) xs.length (i + 1) := partR_set (z := [.int .i64 0, .int .i64 0, .int .i64 0, .int .i64 0]) hc1 rfl hl hx
  rw [hs]
  exact ih (i + 1) _ _ (by omega) (by omega) (by simp (disch := omega) only [subT, Int.natCast_add, Int.cast_ofNat_Int, go_sem] <;> (repeat' apply And.intro) <;> first | rfl | (congr 1; omega) | assumption) rfl
 ·obtain rfl : i = xs.length := by omega
  simp (disch := omega) only [go_sem]
  exact W_retR c126_ok rfl (own_part hc hl hb)
end
section
attribute [local irreducible] SRun DS DRun
variable {Γ : St} {σ σ0 : St}
/-- A network whose lists are owned, and were not there before. -/
def NetAt (σ0 : St) (n : Net) (qs : List V) (s : St) : Prop := ∃ q0 q1 q2 q3 q4 q5, qs = [q0, q1, q2, q3, q4, q5] ∧ (∀ b c, σ0 b = some c → s b = some c) ∧ (∀ q ∈ qs, ∀ b, blk q = some b → σ0 b = none) ∧
 At s 1 (strsV n.routers) q0 ∧ At s 3 (linksV n.links) q1 ∧ At s 1 (ints n.origins) q2 ∧ At s 1 (ints n.externals) q3 ∧ At s 5 (impsV n.imports) q4 ∧ At s 4 (filsV n.filters) q5
theorem At.upd {es : Nat} {xs : List V} {q : V} (h : At σ es xs q) {b : Nat} (hb : blk q ≠ some b) (c : List V) : At (Lg.upd σ b c) es xs q := h.to fun d hd => upd_ne _ _ (fun e => hb (by rw [← e]; exact hd))
theorem NetAt.one {n : Net} {qs : List V} {s : St} (h : NetAt σ0 n qs s) : (∀ c ∈ qs, c.one = true) ∧ qs.length = 6 := by
 obtain ⟨q0, q1, q2, q3, q4, q5, rfl, _, _, a0, a1, a2, a3, a4, a5⟩ := h
 refine ⟨fun c hc => ?_, rfl⟩
 simp only [List.mem_cons, List.not_mem_nil, or_false] at hc
 rcases hc with rfl | rfl | rfl | rfl | rfl | rfl
 ·exact a0.one
 ·exact a1.one
 ·exact a2.one
 ·exact a3.one
 ·exact a4.one
 ·exact a5.one
theorem NetAt.lend {n : Net} {qs : List V} {s : St} (h : NetAt σ0 n qs s) : Frz s emp (.agg qs) (netV n) := by
 obtain ⟨q0, q1, q2, q3, q4, q5, rfl, _, _, a0, a1, a2, a3, a4, a5⟩ := h
 exact frz_agg (by exact ⟨a0.lend, a1.lend, a2.lend, a3.lend, a4.lend, a5.lend, trivial⟩) (net_one n)
/-- What is not among a network's lists is let go. -/
theorem NetAt.keep {n : Net} {qs : List V} {F : St} (h : NetAt σ0 n qs F) : ∃ s, (∀ b c, s b = some c → F b = some c) ∧ NetAt σ0 n qs s := by
 obtain ⟨q0, q1, q2, q3, q4, q5, rfl, hle, hfr, a0, a1, a2, a3, a4, a5⟩ := h
 have key : ∀ (es : Nat) (xs : List V) (q : V), q ∈ [q0, q1, q2, q3, q4, q5] → At F es xs q → At (fun d => if ([q0, q1, q2, q3, q4, q5].any fun q => blk q == some d) then F d else σ0 d) es xs q := fun es xs q hq ha => ha.to fun b hb => by
  rw [if_pos]
  rw [List.any_eq_true]
  exact ⟨q, hq, by rw [hb]; simp⟩
 refine ⟨fun d => if ([q0, q1, q2, q3, q4, q5].any fun q => blk q == some d) then F d else σ0 d, fun b c h => ?_, q0, q1, q2, q3, q4, q5, rfl, fun b c h => ?_, hfr, key _ _ _ (by simp) a0, key _ _ _ (by simp) a1, key _ _ _ (by simp) a2, key _ _ _ (by simp) a3, key _ _ _ (by simp) a4, key _ _ _ (by simp) a5⟩
 ·dsimp only at h
  split at h
  ·exact h
  ·exact hle _ _ h
 ·dsimp only
  rw [if_neg]
  ·exact h
  ·intro hc
   rw [List.any_eq_true] at hc
   obtain ⟨q, hq, he⟩ := hc
   rw [hfr q hq b (by simpa using he)] at h; cases h
set_option maxHeartbeats 1000000 in
theorem toNet_own {n : Net} (hn : NetFew n) : ACalls Try.prog Γ 48 [netV n] σ fun r s => ∃ qs, r = .agg qs ∧ NetAt σ n qs s := by
 have e0 : (netC n)[0]? = some (.isl false 1 (strsV n.routers)) := rfl
 have e1 : (netC n)[1]? = some (.isl false 3 (linksV n.links)) := rfl
 have e2 : (netC n)[2]? = some (.isl false 1 (ints n.origins)) := rfl
 have e3 : (netC n)[3]? = some (.isl false 1 (ints n.externals)) := rfl
 have e4 : (netC n)[4]? = some (.isl false 5 (impsV n.imports)) := rfl
 have e5 : (netC n)[5]? = some (.isl false 4 (filsV n.filters)) := rfl
 refine acalls_W c48_ok rfl ?_
 simp (disch := omega) only [c48, netV, go_sem]
 refine SRun.boxR (net_one n) ?_
 intro b1 hb1
 have g1 := upd_same σ b1 (netC n)
 have hσ : ∀ d y, σ d = some y → upd σ b1 (netC n) d = some y := le_upd hb1
 simp (disch := omega) only [go_sem]
 generalize upd σ b1 (netC n) = s1 at *
 refine SRun.allocR ?_
 intro b2 hb2
 have g1' := le_upd (cs := [.isl true 0 [], .isl true 0 [], .isl true 0 [], .isl true 0 [], .isl true 0 [], .isl true 0 []]) hb2 _ _ g1
 have g2 := upd_same s1 b2 [.isl true 0 [], .isl true 0 [], .isl true 0 [], .isl true 0 [], .isl true 0 [], .isl true 0 []]
 have hσ2 : ∀ d y, σ d = some y → upd s1 b2 [.isl true 0 [], .isl true 0 [], .isl true 0 [], .isl true 0 [], .isl true 0 [], .isl true 0 []] d = some y := fun d y h => le_upd hb2 _ _ (hσ d y h)
 have hσb2 : σ b2 = none := none_of hσ _ hb2
 simp (disch := omega) only [go_sem]
 generalize upd s1 b2 [.isl true 0 [], .isl true 0 [], .isl true 0 [], .isl true 0 [], .isl true 0 [], .isl true 0 []] = s2 at *
 refine SRun.allocR ?_
 intro b3 hb3
 have n31 : b3 ≠ b1 := fun e => by subst e; rw [g1'] at hb3; cases hb3
 have n32 : b3 ≠ b2 := fun e => by subst e; rw [g2] at hb3; cases hb3
 have g3 := upd_same s2 b3 [.isl true 0 [], .isl true 0 [], .isl true 0 [], .isl true 0 [], .isl true 0 [], .isl true 0 []]
 have f1 : upd s2 b3 [.isl true 0 [], .isl true 0 [], .isl true 0 [], .isl true 0 [], .isl true 0 [], .isl true 0 []] b1 = some (netC n) := by rw [upd_ne _ _ n31.symm]; exact g1'
 have f2 : upd s2 b3 [.isl true 0 [], .isl true 0 [], .isl true 0 [], .isl true 0 [], .isl true 0 [], .isl true 0 []] b2 = some [.isl true 0 [], .isl true 0 [], .isl true 0 [], .isl true 0 [], .isl true 0 [], .isl true 0 []] := by rw [upd_ne _ _ n32.symm]; exact g2
 have hl : ∀ d y, σ d = some y → upd s2 b3 [.isl true 0 [], .isl true 0 [], .isl true 0 [], .isl true 0 [], .isl true 0 [], .isl true 0 []] d = some y := fun d y h => le_upd hb3 _ _ (hσ2 d y h)
 have hσb3 : σ b3 = none := none_of hσ2 _ hb3
 simp (disch := omega) only [f1, e0, go_sem]
 generalize upd s2 b3 [.isl true 0 [], .isl true 0 [], .isl true 0 [], .isl true 0 [], .isl true 0 [], .isl true 0 []] = t at *
 refine SRun.callQ (toStringS_own hn.routers) ⟨[], rfl, rfl⟩ rfl ?_
 intro q0 u0 o0
 obtain ⟨a0, n0⟩ := o0.atQ
 have m0 : ∀ b, blk q0 = some b → σ b = none := fun b hb => none_of hl _ (n0 b hb)
 have k0 : blk q0 ≠ some b3 := fun e => by have := n0 _ e; rw [g3] at this; cases this
 have j0 : blk q0 ≠ some b2 := fun e => by have := n0 _ e; rw [f2] at this; cases this
 have h1 := o0.one
 have h2 := o0.cells
 have h3 := o0.le
 have g3 := h3 _ _ g3
 have f1 := h3 _ _ f1
 have f2 := h3 _ _ f2
 have hl : ∀ d y, σ d = some y → u0 d = some y := fun d y h => h3 _ _ (hl d y h)
 simp (disch := omega) only [g3, h1, h2, f1, e1, go_sem]
 have a0 := a0.upd k0 [q0, .isl true 0 [], .isl true 0 [], .isl true 0 [], .isl true 0 [], .isl true 0 []]
 have g3 := upd_same u0 b3 [q0, .isl true 0 [], .isl true 0 [], .isl true 0 [], .isl true 0 [], .isl true 0 []]
 have f1 : upd u0 b3 [q0, .isl true 0 [], .isl true 0 [], .isl true 0 [], .isl true 0 [], .isl true 0 []] b1 = some (netC n) := by rw [upd_ne _ _ n31.symm]; exact f1
 have f2 : upd u0 b3 [q0, .isl true 0 [], .isl true 0 [], .isl true 0 [], .isl true 0 [], .isl true 0 []] b2 = some [.isl true 0 [], .isl true 0 [], .isl true 0 [], .isl true 0 [], .isl true 0 [], .isl true 0 []] := by rw [upd_ne _ _ n32.symm]; exact f2
 have hl : ∀ d y, σ d = some y → upd u0 b3 [q0, .isl true 0 [], .isl true 0 [], .isl true 0 [], .isl true 0 [], .isl true 0 []] d = some y := fun d y h => by rw [upd_ne _ _ (fun e => by subst e; rw [hσb3] at h; cases h)]; exact hl d y h
 clear h1 h2 h3 o0 n0
 generalize upd u0 b3 [q0, .isl true 0 [], .isl true 0 [], .isl true 0 [], .isl true 0 [], .isl true 0 []] = t0 at *
 refine SRun.callQ (toLinkS_own hn.links) ⟨[], rfl, rfl⟩ rfl ?_
 intro q1 u1 o1
 obtain ⟨a1, n1⟩ := o1.atQ
 have m1 : ∀ b, blk q1 = some b → σ b = none := fun b hb => none_of hl _ (n1 b hb)
 have k1 : blk q1 ≠ some b3 := fun e => by have := n1 _ e; rw [g3] at this; cases this
 have j1 : blk q1 ≠ some b2 := fun e => by have := n1 _ e; rw [f2] at this; cases this
 have h1 := o1.one
 have h2 := o1.cells
 have h3 := o1.le
 have a0 := a0.mono h3
 have g3 := h3 _ _ g3
 have f1 := h3 _ _ f1
 have f2 := h3 _ _ f2
 have hl : ∀ d y, σ d = some y → u1 d = some y := fun d y h => h3 _ _ (hl d y h)
 simp (disch := omega) only [g3, h1, h2, f1, e2, go_sem]
 have a0 := a0.upd k0 [q0, q1, .isl true 0 [], .isl true 0 [], .isl true 0 [], .isl true 0 []]
 have a1 := a1.upd k1 [q0, q1, .isl true 0 [], .isl true 0 [], .isl true 0 [], .isl true 0 []]
 have g3 := upd_same u1 b3 [q0, q1, .isl true 0 [], .isl true 0 [], .isl true 0 [], .isl true 0 []]
 have f1 : upd u1 b3 [q0, q1, .isl true 0 [], .isl true 0 [], .isl true 0 [], .isl true 0 []] b1 = some (netC n) := by rw [upd_ne _ _ n31.symm]; exact f1
 have f2 : upd u1 b3 [q0, q1, .isl true 0 [], .isl true 0 [], .isl true 0 [], .isl true 0 []] b2 = some [.isl true 0 [], .isl true 0 [], .isl true 0 [], .isl true 0 [], .isl true 0 [], .isl true 0 []] := by rw [upd_ne _ _ n32.symm]; exact f2
 have hl : ∀ d y, σ d = some y → upd u1 b3 [q0, q1, .isl true 0 [], .isl true 0 [], .isl true 0 [], .isl true 0 []] d = some y := fun d y h => by rw [upd_ne _ _ (fun e => by subst e; rw [hσb3] at h; cases h)]; exact hl d y h
 clear h1 h2 h3 o1 n1
 generalize upd u1 b3 [q0, q1, .isl true 0 [], .isl true 0 [], .isl true 0 [], .isl true 0 []] = t1 at *
 refine SRun.callQ (toIntS_own hn.origins) ⟨[], rfl, rfl⟩ rfl ?_
 intro q2 u2 o2
 obtain ⟨a2, n2⟩ := o2.atQ
 have m2 : ∀ b, blk q2 = some b → σ b = none := fun b hb => none_of hl _ (n2 b hb)
 have k2 : blk q2 ≠ some b3 := fun e => by have := n2 _ e; rw [g3] at this; cases this
 have j2 : blk q2 ≠ some b2 := fun e => by have := n2 _ e; rw [f2] at this; cases this
 have h1 := o2.one
 have h2 := o2.cells
 have h3 := o2.le
 have a0 := a0.mono h3
 have a1 := a1.mono h3
 have g3 := h3 _ _ g3
 have f1 := h3 _ _ f1
 have f2 := h3 _ _ f2
 have hl : ∀ d y, σ d = some y → u2 d = some y := fun d y h => h3 _ _ (hl d y h)
 simp (disch := omega) only [g3, h1, h2, f1, e3, go_sem]
 have a0 := a0.upd k0 [q0, q1, q2, .isl true 0 [], .isl true 0 [], .isl true 0 []]
 have a1 := a1.upd k1 [q0, q1, q2, .isl true 0 [], .isl true 0 [], .isl true 0 []]
 have a2 := a2.upd k2 [q0, q1, q2, .isl true 0 [], .isl true 0 [], .isl true 0 []]
 have g3 := upd_same u2 b3 [q0, q1, q2, .isl true 0 [], .isl true 0 [], .isl true 0 []]
 have f1 : upd u2 b3 [q0, q1, q2, .isl true 0 [], .isl true 0 [], .isl true 0 []] b1 = some (netC n) := by rw [upd_ne _ _ n31.symm]; exact f1
 have f2 : upd u2 b3 [q0, q1, q2, .isl true 0 [], .isl true 0 [], .isl true 0 []] b2 = some [.isl true 0 [], .isl true 0 [], .isl true 0 [], .isl true 0 [], .isl true 0 [], .isl true 0 []] := by rw [upd_ne _ _ n32.symm]; exact f2
 have hl : ∀ d y, σ d = some y → upd u2 b3 [q0, q1, q2, .isl true 0 [], .isl true 0 [], .isl true 0 []] d = some y := fun d y h => by rw [upd_ne _ _ (fun e => by subst e; rw [hσb3] at h; cases h)]; exact hl d y h
 clear h1 h2 h3 o2 n2
 generalize upd u2 b3 [q0, q1, q2, .isl true 0 [], .isl true 0 [], .isl true 0 []] = t2 at *
 refine SRun.callQ (toIntS_own hn.externals) ⟨[], rfl, rfl⟩ rfl ?_
 intro q3 u3 o3
 obtain ⟨a3, n3⟩ := o3.atQ
 have m3 : ∀ b, blk q3 = some b → σ b = none := fun b hb => none_of hl _ (n3 b hb)
 have k3 : blk q3 ≠ some b3 := fun e => by have := n3 _ e; rw [g3] at this; cases this
 have j3 : blk q3 ≠ some b2 := fun e => by have := n3 _ e; rw [f2] at this; cases this
 have h1 := o3.one
 have h2 := o3.cells
 have h3 := o3.le
 have a0 := a0.mono h3
 have a1 := a1.mono h3
 have a2 := a2.mono h3
 have g3 := h3 _ _ g3
 have f1 := h3 _ _ f1
 have f2 := h3 _ _ f2
 have hl : ∀ d y, σ d = some y → u3 d = some y := fun d y h => h3 _ _ (hl d y h)
 simp (disch := omega) only [g3, h1, h2, f1, e4, go_sem]
 have a0 := a0.upd k0 [q0, q1, q2, q3, .isl true 0 [], .isl true 0 []]
 have a1 := a1.upd k1 [q0, q1, q2, q3, .isl true 0 [], .isl true 0 []]
 have a2 := a2.upd k2 [q0, q1, q2, q3, .isl true 0 [], .isl true 0 []]
 have a3 := a3.upd k3 [q0, q1, q2, q3, .isl true 0 [], .isl true 0 []]
 have g3 := upd_same u3 b3 [q0, q1, q2, q3, .isl true 0 [], .isl true 0 []]
 have f1 : upd u3 b3 [q0, q1, q2, q3, .isl true 0 [], .isl true 0 []] b1 = some (netC n) := by rw [upd_ne _ _ n31.symm]; exact f1
 have f2 : upd u3 b3 [q0, q1, q2, q3, .isl true 0 [], .isl true 0 []] b2 = some [.isl true 0 [], .isl true 0 [], .isl true 0 [], .isl true 0 [], .isl true 0 [], .isl true 0 []] := by rw [upd_ne _ _ n32.symm]; exact f2
 have hl : ∀ d y, σ d = some y → upd u3 b3 [q0, q1, q2, q3, .isl true 0 [], .isl true 0 []] d = some y := fun d y h => by rw [upd_ne _ _ (fun e => by subst e; rw [hσb3] at h; cases h)]; exact hl d y h
 clear h1 h2 h3 o3 n3
 generalize upd u3 b3 [q0, q1, q2, q3, .isl true 0 [], .isl true 0 []] = t3 at *
 refine SRun.callQ (toImportS_own hn.imports) ⟨[], rfl, rfl⟩ rfl ?_
 intro q4 u4 o4
 obtain ⟨a4, n4⟩ := o4.atQ
 have m4 : ∀ b, blk q4 = some b → σ b = none := fun b hb => none_of hl _ (n4 b hb)
 have k4 : blk q4 ≠ some b3 := fun e => by have := n4 _ e; rw [g3] at this; cases this
 have j4 : blk q4 ≠ some b2 := fun e => by have := n4 _ e; rw [f2] at this; cases this
 have h1 := o4.one
 have h2 := o4.cells
 have h3 := o4.le
 have a0 := a0.mono h3
 have a1 := a1.mono h3
 have a2 := a2.mono h3
 have a3 := a3.mono h3
 have g3 := h3 _ _ g3
 have f1 := h3 _ _ f1
 have f2 := h3 _ _ f2
 have hl : ∀ d y, σ d = some y → u4 d = some y := fun d y h => h3 _ _ (hl d y h)
 simp (disch := omega) only [g3, h1, h2, f1, e5, go_sem]
 have a0 := a0.upd k0 [q0, q1, q2, q3, q4, .isl true 0 []]
 have a1 := a1.upd k1 [q0, q1, q2, q3, q4, .isl true 0 []]
 have a2 := a2.upd k2 [q0, q1, q2, q3, q4, .isl true 0 []]
 have a3 := a3.upd k3 [q0, q1, q2, q3, q4, .isl true 0 []]
 have a4 := a4.upd k4 [q0, q1, q2, q3, q4, .isl true 0 []]
 have g3 := upd_same u4 b3 [q0, q1, q2, q3, q4, .isl true 0 []]
 have f1 : upd u4 b3 [q0, q1, q2, q3, q4, .isl true 0 []] b1 = some (netC n) := by rw [upd_ne _ _ n31.symm]; exact f1
 have f2 : upd u4 b3 [q0, q1, q2, q3, q4, .isl true 0 []] b2 = some [.isl true 0 [], .isl true 0 [], .isl true 0 [], .isl true 0 [], .isl true 0 [], .isl true 0 []] := by rw [upd_ne _ _ n32.symm]; exact f2
 have hl : ∀ d y, σ d = some y → upd u4 b3 [q0, q1, q2, q3, q4, .isl true 0 []] d = some y := fun d y h => by rw [upd_ne _ _ (fun e => by subst e; rw [hσb3] at h; cases h)]; exact hl d y h
 clear h1 h2 h3 o4 n4
 generalize upd u4 b3 [q0, q1, q2, q3, q4, .isl true 0 []] = t4 at *
 refine SRun.callQ (toFilterS_own hn.filters) ⟨[], rfl, rfl⟩ rfl ?_
 intro q5 u5 o5
 obtain ⟨a5, n5⟩ := o5.atQ
 have m5 : ∀ b, blk q5 = some b → σ b = none := fun b hb => none_of hl _ (n5 b hb)
 have k5 : blk q5 ≠ some b3 := fun e => by have := n5 _ e; rw [g3] at this; cases this
 have j5 : blk q5 ≠ some b2 := fun e => by have := n5 _ e; rw [f2] at this; cases this
 have h1 := o5.one
 have h2 := o5.cells
 have h3 := o5.le
 have a0 := a0.mono h3
 have a1 := a1.mono h3
 have a2 := a2.mono h3
 have a3 := a3.mono h3
 have a4 := a4.mono h3
 have g3 := h3 _ _ g3
 have f1 := h3 _ _ f1
 have f2 := h3 _ _ f2
 have hl : ∀ d y, σ d = some y → u5 d = some y := fun d y h => h3 _ _ (hl d y h)
 have hl5 : ∀ d y, σ d = some y → upd u5 b3 [q0, q1, q2, q3, q4, q5] d = some y := fun d y h => by rw [upd_ne _ _ (fun e => by subst e; rw [hσb3] at h; cases h)]; exact hl d y h
 have ha : NetAt σ n [q0, q1, q2, q3, q4, q5] (upd (upd u5 b3 [q0, q1, q2, q3, q4, q5]) b2 [q0, q1, q2, q3, q4, q5]) := ⟨q0, q1, q2, q3, q4, q5, rfl, fun d y h => by rw [upd_ne _ _ (fun e => by subst e; rw [hσb2] at h; cases h)]; exact hl5 d y h, fun q hq b hb => by
  simp only [List.mem_cons, List.not_mem_nil, or_false] at hq
  rcases hq with rfl | rfl | rfl | rfl | rfl | rfl
  ·exact m0 b hb
  ·exact m1 b hb
  ·exact m2 b hb
  ·exact m3 b hb
  ·exact m4 b hb
  ·exact m5 b hb, (a0.upd k0 _).upd j0 _, (a1.upd k1 _).upd j1 _, (a2.upd k2 _).upd j2 _, (a3.upd k3 _).upd j3 _, (a4.upd k4 _).upd j4 _, (a5.upd k5 _).upd j5 _⟩
 obtain ⟨s, hs, ha2⟩ := ha.keep
 have ho : (∀ c, c ∈ [q0, q1, q2, q3, q4, q5] → c.one = true) = True := eq_true ha.one.1
 simp (disch := omega) only [g3, h1, h2, n32, f2, ho, go_sem]
 exact W_retC c48_ok (r := .agg [q0, q1, q2, q3, q4, q5]) (σ' := s) (resV_cellA rfl (upd_same _ _ _) rfl) (Conv.drop _ hs) ⟨_, rfl, ha2⟩
end
section
attribute [local irreducible] SRun DS DRun
variable {Γ : St} {σ σ0 : St}
def Room (σ : St) (es len : Nat) (q : V) : Prop := (len = 0 ∧ ∃ es', q = .isl true es' []) ∨ ∃ b cap cs, q = .msl b es 0 len cap ∧ σ b = some cs ∧ len * es ≤ cs.length
def Shape (σ s : St) : Prop := ∀ b c, σ b = some c → ∃ c', s b = some c' ∧ c'.length = c.length
theorem Shape.refl (σ : St) : Shape σ σ := fun b c h => ⟨c, h, rfl⟩
theorem Shape.trans {s t u : St} (h : Shape s t) (h' : Shape t u) : Shape s u := fun b c hb => by
 obtain ⟨c1, h1, e1⟩ := h b c hb
 obtain ⟨c2, h2, e2⟩ := h' b c1 h1
 exact ⟨c2, h2, e2.trans e1⟩
theorem Room.shape {es len : Nat} {q : V} {s : St} (h : Room σ es len q) (hs : Shape σ s) : Room s es len q := by
 rcases h with h | ⟨b, cap, cs, rfl, h1, h2⟩
 ·exact .inl h
 ·obtain ⟨c', h3, h4⟩ := hs b cs h1
  exact .inr ⟨b, cap, c', rfl, h3, by rw [h4]; exact h2⟩
theorem Shape.upd {b : Nat} {c c' : List V} (hb : σ b = some c) (hl : c'.length = c.length) : Shape σ (upd σ b c') := fun d x hd => by
 by_cases e : d = b
 ·subst e; rw [hb] at hd; cases hd; exact ⟨c', upd_same _ _ _, hl⟩
 ·exact ⟨x, by rw [upd_ne _ _ e]; exact hd, rfl⟩
theorem At.room {es : Nat} {xs : List V} {q : V} (h : At σ es xs q) : Room σ es xs.length q := by
 obtain ⟨hx, h2⟩ := h
 rcases h2 with ⟨rfl, es', rfl⟩ | ⟨b, cap, rfl, h3⟩
 ·exact .inl ⟨rfl, es', rfl⟩
 ·exact .inr ⟨b, cap, _, rfl, h3, by rw [flat_length fun x hx' => (hx x hx').1]; exact Nat.le_refl _⟩
def Marked (σ : St) (q : V) (k m : Int) (r : V) (s : St) : Prop := (∃ k', r = .int .i64 k' ∧ k ≤ k' ∧ k' ≤ k + m) ∧ Shape σ s ∧ ∀ b, blk q ≠ some b → s b = σ b
theorem markText_ok {k : Int} (hk : 0 ≤ k ∧ k ≤ 1000000000) : ACalls Try.prog Γ 194 [.int .i64 k] σ fun r s => s = σ ∧ ∃ t : List UInt8, r = .str t := by
 refine acalls_W c194_ok rfl ?_
 simp (disch := omega) only [c194, go_sem]
 first | refine iteW_dec (fun h0 => ?_) (fun h0 => ?_) | refine iteW_of (fun h0 => ?_) (fun h0 => ?_)
 ·simp (disch := omega) only [go_sem]
  exact W_retR c194_ok rfl ⟨rfl, _, rfl⟩
 ·simp (disch := omega) only [go_sem]
  refine W_loopC (α := Int × List UInt8) (fun p => 0 ≤ p.1 ∧ p.1 + p.2.length ≤ k) (fun p => [(0, .int .i64 p.1), (3, .str p.2)]) (fun _ => σ) (fun p => p.1.toNat) (k, []) ⟨by simp only; omega, by simp⟩ (by simp (disch := omega) only [subT, Int.natCast_add, Int.cast_ofNat_Int, go_sem] <;> (repeat' apply And.intro) <;> first | rfl | (congr 1; omega) | assumption) rfl ?_
  rintro ⟨m, out⟩ ⟨hm, hle⟩ ih
  dsimp only at hm hle
  simp (disch := omega) only [go_sem]
  first | refine iteW_dec (fun h1 => ?_) (fun h1 => ?_) | refine iteW_of (fun h1 => ?_) (fun h1 => ?_)
  ·have ht : 0 ≤ m.tmod 10 ∧ m.tmod 10 < 10 := ⟨Int.tmod_nonneg _ hm, Int.tmod_lt_of_pos _ (by omega)⟩
   have hd : m.tdiv 10 = m / 10 := Int.tdiv_eq_ediv_of_nonneg hm
   obtain ⟨j, hj⟩ : ∃ j : Nat, m.tmod 10 = j := ⟨(m.tmod 10).toNat, by omega⟩
   have hj9 : j < 10 := by omega
   have hw8 : ∀ j : Nat, j < 10 → IntKind.u8.wrap (48 + (j : Int)) = (((UInt8.ofNat (48 + j)).toNat : Nat) : Int) := by decide
   have hwj := hw8 j hj9
   simp (disch := omega) only [hj, hwj, go_sem]
   refine SRun.b2sR (bs := [UInt8.ofNat (48 + j)]) (.inl ⟨true, rfl⟩) ?_
   simp (disch := omega) only [List.length_singleton, go_sem]
   exact ih (m.tdiv 10, UInt8.ofNat (48 + j) :: out) _ _ ⟨by simp only; omega, by simp only [List.length_cons]; omega⟩ (by simp only; omega) (by simp (disch := omega) only [subT, Int.natCast_add, Int.cast_ofNat_Int, go_sem] <;> (repeat' apply And.intro) <;> first | rfl | (congr 1; omega) | assumption) rfl
  ·simp (disch := omega) only [go_sem]
   exact W_retR c194_ok rfl ⟨rfl, _, rfl⟩
theorem markStringS_ok {n : Nat} {q : V} {k : Int} (h : Room σ 1 n q) (hl : n ≤ 1048576) (hk : 0 ≤ k ∧ k ≤ 900000000) : ACalls Try.prog Γ 132 [q, .int .i64 k] σ fun r s => Marked σ q k n r s := by
 rcases h with ⟨rfl, es', rfl⟩ | ⟨b, cap, cs, rfl, hb, hcs⟩
 ·refine acalls_W c132_ok rfl ?_
  simp (disch := omega) only [c132, go_sem]
  refine W_loopC (α := Unit) (fun _ => True) (fun _ => [(0, .isl true es' []), (1, .int .i64 k), (5, .int .i64 0)]) (fun _ => σ) (fun _ => 0) () trivial (by simp (disch := omega) only [subT, Int.natCast_add, Int.cast_ofNat_Int, go_sem] <;> (repeat' apply And.intro) <;> first | rfl | (congr 1; omega) | assumption) rfl ?_
  intro _ _ _
  simp (disch := omega) only [List.length_nil, go_sem]
  exact W_retR c132_ok rfl ⟨⟨k, rfl, by omega, by omega⟩, Shape.refl _, fun _ _ => rfl⟩
 ·refine acalls_W c132_ok rfl ?_
  simp (disch := omega) only [c132, go_sem]
  refine W_loopC (α := Nat × List V) (fun p => p.1 ≤ n ∧ p.2.length = cs.length) (fun p => [(0, .msl b 1 0 n cap), (1, .int .i64 (k + p.1)), (5, .int .i64 (p.1 : Nat))]) (fun p => upd σ b p.2) (fun p => n - p.1) (0, cs) ⟨by simp, rfl⟩ (by simp (disch := omega) only [subT, Int.natCast_add, Int.cast_ofNat_Int, Int.natCast_zero, Int.add_zero, go_sem] <;> (repeat' apply And.intro) <;> first | rfl | (congr 1; omega) | assumption) (upd_self _ hb) ?_
  rintro ⟨i, c⟩ ⟨hi, hc⟩ ih
  dsimp only at hi hc
  have g := upd_same σ b c
  simp (disch := omega) only [go_sem]
  first | refine iteW_dec (fun h1 => ?_) (fun h1 => ?_) | refine iteW_of (fun h1 => ?_) (fun h1 => ?_)
  ·simp (disch := omega) only [go_sem]
   refine SRun.callQ (markText_ok (k := k + i) (by omega)) ⟨[], rfl, rfl⟩ rfl ?_
   rintro r s ⟨hs, t, rfl⟩
   obtain rfl := hs.symm
   simp (disch := omega) only [g, go_sem]
   exact ih (i + 1, _) _ _ ⟨by simp only; omega, by simp only [List.length_set]; exact hc⟩ (by simp only; omega) (by simp (disch := omega) only [subT, Int.natCast_add, Int.cast_ofNat_Int, go_sem] <;> (repeat' apply And.intro) <;> first | rfl | (congr 1; omega) | assumption) rfl
  ·have hil : i = n := by omega
   subst hil
   simp (disch := omega) only [go_sem]
   exact W_retR c132_ok rfl ⟨⟨k + i, rfl, by omega, by omega⟩, Shape.upd hb hc, fun d hd => upd_ne _ _ (fun e => hd (by rw [e]; rfl))⟩
set_option maxHeartbeats 1000000 in
theorem markLinkS_ok {n : Nat} {q : V} {k : Int} (h : Room σ 3 n q) (hl : n ≤ 1048576) (hk : 0 ≤ k ∧ k ≤ 900000000) : ACalls Try.prog Γ 133 [q, .int .i64 k] σ fun r s => Marked σ q k (3 * n) r s := by
 rcases h with ⟨rfl, es', rfl⟩ | ⟨b, cap, cs, rfl, hb, hcs⟩
 ·refine acalls_W c133_ok rfl ?_
  simp (disch := omega) only [c133, go_sem]
  refine W_loopC (α := Unit) (fun _ => True) (fun _ => [(0, .isl true es' []), (1, .int .i64 k), (5, .int .i64 0)]) (fun _ => σ) (fun _ => 0) () trivial (by simp (disch := omega) only [subT, Int.natCast_add, Int.cast_ofNat_Int, go_sem] <;> (repeat' apply And.intro) <;> first | rfl | (congr 1; omega) | assumption) rfl ?_
  intro _ _ _
  simp (disch := omega) only [List.length_nil, go_sem]
  exact W_retR c133_ok rfl ⟨⟨k, rfl, by omega, by omega⟩, Shape.refl _, fun _ _ => rfl⟩
 ·refine acalls_W c133_ok rfl ?_
  simp (disch := omega) only [c133, go_sem]
  refine W_loopC (α := Nat × List V) (fun p => p.1 ≤ n ∧ p.2.length = cs.length) (fun p => [(0, .msl b 3 0 n cap), (1, .int .i64 (k + 3 * p.1)), (5, .int .i64 (p.1 : Nat))]) (fun p => upd σ b p.2) (fun p => n - p.1) (0, cs) ⟨by simp, rfl⟩ (by simp (disch := omega) only [subT, Int.natCast_add, Int.cast_ofNat_Int, Int.natCast_zero, Int.mul_zero, Int.add_zero, go_sem] <;> (repeat' apply And.intro) <;> first | rfl | (congr 1; omega) | assumption) (upd_self _ hb) ?_
  rintro ⟨i, c⟩ ⟨hi, hc⟩ ih
  dsimp only at hi hc
  have g := fun x => upd_same σ b x
  simp (disch := omega) only [go_sem]
  first | refine iteW_dec (fun h1 => ?_) (fun h1 => ?_) | refine iteW_of (fun h1 => ?_) (fun h1 => ?_)
  ·simp (disch := omega) only [g, List.length_set, go_sem]
   exact ih (i + 1, _) _ _ ⟨by simp only; omega, by simp only [List.length_set]; exact hc⟩ (by simp only; omega) (by simp (disch := omega) only [subT, Int.natCast_add, Int.cast_ofNat_Int, go_sem] <;> (repeat' apply And.intro) <;> first | rfl | (congr 1; omega) | assumption) rfl
  ·have hil : i = n := by omega
   subst hil
   simp (disch := omega) only [go_sem]
   exact W_retR c133_ok rfl ⟨⟨k + 3 * i, rfl, by omega, by omega⟩, Shape.upd hb hc, fun d hd => upd_ne _ _ (fun e => hd (by rw [e]; rfl))⟩
set_option maxHeartbeats 1000000 in
theorem markImportS_ok {n : Nat} {q : V} {k : Int} (h : Room σ 5 n q) (hl : n ≤ 1048576) (hk : 0 ≤ k ∧ k ≤ 900000000) : ACalls Try.prog Γ 135 [q, .int .i64 k] σ fun r s => Marked σ q k (5 * n) r s := by
 rcases h with ⟨rfl, es', rfl⟩ | ⟨b, cap, cs, rfl, hb, hcs⟩
 ·refine acalls_W c135_ok rfl ?_
  simp (disch := omega) only [c135, go_sem]
  refine W_loopC (α := Unit) (fun _ => True) (fun _ => [(0, .isl true es' []), (1, .int .i64 k), (5, .int .i64 0)]) (fun _ => σ) (fun _ => 0) () trivial (by simp (disch := omega) only [subT, Int.natCast_add, Int.cast_ofNat_Int, go_sem] <;> (repeat' apply And.intro) <;> first | rfl | (congr 1; omega) | assumption) rfl ?_
  intro _ _ _
  simp (disch := omega) only [List.length_nil, go_sem]
  exact W_retR c135_ok rfl ⟨⟨k, rfl, by omega, by omega⟩, Shape.refl _, fun _ _ => rfl⟩
 ·refine acalls_W c135_ok rfl ?_
  simp (disch := omega) only [c135, go_sem]
  refine W_loopC (α := Nat × List V) (fun p => p.1 ≤ n ∧ p.2.length = cs.length) (fun p => [(0, .msl b 5 0 n cap), (1, .int .i64 (k + 5 * p.1)), (5, .int .i64 (p.1 : Nat))]) (fun p => upd σ b p.2) (fun p => n - p.1) (0, cs) ⟨by simp, rfl⟩ (by simp (disch := omega) only [subT, Int.natCast_add, Int.cast_ofNat_Int, Int.natCast_zero, Int.mul_zero, Int.add_zero, go_sem] <;> (repeat' apply And.intro) <;> first | rfl | (congr 1; omega) | assumption) (upd_self _ hb) ?_
  rintro ⟨i, c⟩ ⟨hi, hc⟩ ih
  dsimp only at hi hc
  have g := fun x => upd_same σ b x
  simp (disch := omega) only [go_sem]
  first | refine iteW_dec (fun h1 => ?_) (fun h1 => ?_) | refine iteW_of (fun h1 => ?_) (fun h1 => ?_)
  ·simp (disch := omega) only [g, List.length_set, go_sem]
   exact ih (i + 1, _) _ _ ⟨by simp only; omega, by simp only [List.length_set]; exact hc⟩ (by simp only; omega) (by simp (disch := omega) only [subT, Int.natCast_add, Int.cast_ofNat_Int, go_sem] <;> (repeat' apply And.intro) <;> first | rfl | (congr 1; omega) | assumption) rfl
  ·have hil : i = n := by omega
   subst hil
   simp (disch := omega) only [go_sem]
   exact W_retR c135_ok rfl ⟨⟨k + 5 * i, rfl, by omega, by omega⟩, Shape.upd hb hc, fun d hd => upd_ne _ _ (fun e => hd (by rw [e]; rfl))⟩
set_option maxHeartbeats 1000000 in
theorem markFilterS_ok {n : Nat} {q : V} {k : Int} (h : Room σ 4 n q) (hl : n ≤ 1048576) (hk : 0 ≤ k ∧ k ≤ 900000000) : ACalls Try.prog Γ 136 [q, .int .i64 k] σ fun r s => Marked σ q k (4 * n) r s := by
 rcases h with ⟨rfl, es', rfl⟩ | ⟨b, cap, cs, rfl, hb, hcs⟩
 ·refine acalls_W c136_ok rfl ?_
  simp (disch := omega) only [c136, go_sem]
  refine W_loopC (α := Unit) (fun _ => True) (fun _ => [(0, .isl true es' []), (1, .int .i64 k), (5, .int .i64 0)]) (fun _ => σ) (fun _ => 0) () trivial (by simp (disch := omega) only [subT, Int.natCast_add, Int.cast_ofNat_Int, go_sem] <;> (repeat' apply And.intro) <;> first | rfl | (congr 1; omega) | assumption) rfl ?_
  intro _ _ _
  simp (disch := omega) only [List.length_nil, go_sem]
  exact W_retR c136_ok rfl ⟨⟨k, rfl, by omega, by omega⟩, Shape.refl _, fun _ _ => rfl⟩
 ·refine acalls_W c136_ok rfl ?_
  simp (disch := omega) only [c136, go_sem]
  refine W_loopC (α := Nat × List V) (fun p => p.1 ≤ n ∧ p.2.length = cs.length) (fun p => [(0, .msl b 4 0 n cap), (1, .int .i64 (k + 4 * p.1)), (5, .int .i64 (p.1 : Nat))]) (fun p => upd σ b p.2) (fun p => n - p.1) (0, cs) ⟨by simp, rfl⟩ (by simp (disch := omega) only [subT, Int.natCast_add, Int.cast_ofNat_Int, Int.natCast_zero, Int.mul_zero, Int.add_zero, go_sem] <;> (repeat' apply And.intro) <;> first | rfl | (congr 1; omega) | assumption) (upd_self _ hb) ?_
  rintro ⟨i, c⟩ ⟨hi, hc⟩ ih
  dsimp only at hi hc
  have g := fun x => upd_same σ b x
  simp (disch := omega) only [go_sem]
  first | refine iteW_dec (fun h1 => ?_) (fun h1 => ?_) | refine iteW_of (fun h1 => ?_) (fun h1 => ?_)
  ·simp (disch := omega) only [g, List.length_set, go_sem]
   exact ih (i + 1, _) _ _ ⟨by simp only; omega, by simp only [List.length_set]; exact hc⟩ (by simp only; omega) (by simp (disch := omega) only [subT, Int.natCast_add, Int.cast_ofNat_Int, go_sem] <;> (repeat' apply And.intro) <;> first | rfl | (congr 1; omega) | assumption) rfl
  ·have hil : i = n := by omega
   subst hil
   simp (disch := omega) only [go_sem]
   exact W_retR c136_ok rfl ⟨⟨k + 4 * i, rfl, by omega, by omega⟩, Shape.upd hb hc, fun d hd => upd_ne _ _ (fun e => hd (by rw [e]; rfl))⟩
end
end Go.Proofs.Ytlidjjjpjndneaa.Lg
