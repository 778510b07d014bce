/- A network written by the program: a line put, an import's texts. -/
import Derived.Test.YtjibkkhgejcjeaaGreatDoorVh
import Derived.Test.YtjibkkhgejcjeaaGreatDoorAh
import Derived.Test.YtjibkkhgejcjeaaGreatDoorAj
import Derived.Test.YtjibkkhgejcjeaaGreatDoorXz
set_option linter.unusedSimpArgs false
set_option linter.unusedVariables false
namespace Go.Proofs.YtjibkkhgejcjeaaGreatDoor.Lg
open Go Go.Lib
attribute [local irreducible] SRun DS DRun
variable {Γ : St} {σ σ0 : St}
theorem join_jn : ∀ ws : List Wrd, join ws [32] = jnB ws := by
  intro ws
  induction ws with
  | nil => rfl
  | cons w r ih =>
    cases r with
    | nil => rw [join_one]; rfl
    | cons x r =>
      rw [join_cons] at ih ⊢
      simp only [jnB]
      rw [← ih]
      simp [joinTail]
theorem BldAt.mono {b : Nat} {l : List UInt8} {s s' : St} (h : BldAt σ0 b l s) (hs : ∀ d c, s d = some c → s' d = some c) : BldAt σ0 b l s' := by
  obtain ⟨h0, p, q, hp, hb, hq, hqb, hn, hle⟩ := h
  refine ⟨h0, p, q, hp, hs _ _ hb, ?_, hqb, hn, fun d c hd => hs _ _ (hle d c hd)⟩
  rcases hq with h1 | ⟨g, cap, h1, h2, h3⟩
  · exact .inl h1
  · exact .inr ⟨g, cap, h1, h2, hs _ _ h3⟩
theorem put_ok {b : Nat} {l : List UInt8} {ws : List Wrd} (h : BldAt σ0 b l σ) (hn : ws ≠ []) (hl : ws.length ≤ 10) (hj : (jnB ws).length ≤ 1000) (hll : l.length ≤ 1000000) : ACalls Tryz.prog Γ 100 [.isl true 1 (strsV ws), .ptr b 0] σ fun r s => r = .tup [] ∧ BldAt σ0 b (l ++ lnT ws) s := by
  have hJ := fun σ => Join_ok (Γ := Γ) (σ := σ) (ex := true) (ws := ws) (sep := [32]) hn (by omega) (by rw [join_jn]; omega)
  rw [join_jn] at hJ
  refine acalls_W c100_ok rfl ?_
  simp (disch := omega) only [c100, go_sem]
  refine SRun.callR (hJ _) ⟨[], rfl, rfl⟩ rfl ?_
  simp (disch := omega) only [List.length_cons, List.length_nil, go_sem]
  refine SRun.callQ (WriteString_ok h (s := jnB ws ++ [10]) (by simp) (by rw [List.length_append, List.length_singleton]; omega)) ⟨[], rfl, rfl⟩ rfl ?_
  rintro r s ⟨rfl, hB⟩
  simp (disch := omega) only [go_sem]
  exact W_fallR c100_ok rfl ⟨rfl, hB⟩
def whenT (x : Imp) : List UInt8 := if x.when_ = 1 then [32, 105, 102, 32, 109, 97, 114, 107] else if x.when_ = 2 then [32, 105, 102, 32, 112, 108, 97, 105, 110] else []
def doT (x : Imp) : List UInt8 := if x.do_ = 1 then [32, 100, 101, 110, 121] else if x.do_ = 2 then [32, 112, 114, 101, 102, 32] ++ itoa x.n else if x.do_ = 3 then [32, 109, 97, 114, 107] else [32, 99, 108, 101, 97, 114]
theorem imp_jn (n : Net) (x : Imp) : jnB [wImport, nmN n x.at_, wFrom, (nmN n x.from_ ++ whenT x) ++ doT x] = jnB (impW n x) := by
  unfold impW whenW whenT doW doT
  by_cases h1 : x.when_ = 1 <;> by_cases h2 : x.when_ = 2 <;> by_cases d1 : x.do_ = 1 <;> by_cases d2 : x.do_ = 2 <;> by_cases d3 : x.do_ = 3 <;> simp_all [jnB, wIf, wMark, wPlain, wDeny, wPref, wClear]
theorem imp_lens {x : Imp} (h : impB x = true) : (whenT x).length ≤ 9 ∧ (doT x).length ≤ 14 := by
  simp only [impB, inB, Bool.and_eq_true, decide_eq_true_eq] at h
  have hn : 0 ≤ x.n ∧ x.n ≤ 1000 := by have := h.2; split at this <;> omega
  have hi := itoa_len (n := x.n) (by omega) (by omega)
  constructor
  · unfold whenT; split
    · simp
    split <;> simp
  · unfold doT; split
    · simp
    split
    · simp; omega
    split <;> simp
theorem doText_ok (hg : NumG Γ) {x : Imp} (h : impB x = true) : Ret Tryz.prog Γ 103 [.agg (impC x)] σ (.str (doT x)) σ := by
  simp only [impB, inB, Bool.and_eq_true, decide_eq_true_eq] at h
  obtain ⟨⟨hw, hd⟩, hn0⟩ := h
  have hn : 0 ≤ x.n ∧ x.n ≤ 1000 := by split at hn0 <;> omega
  have hi := itoa_len (n := x.n) (by omega) (by omega)
  obtain ⟨xa, xf, w, d, N⟩ := x
  dsimp only at hw hd hn hi
  unfold doT
  simp only
  refine ret_of c103_ok rfl ?_
  simp (disch := omega) only [c103, impC, go_sem]
  refine SRun.boxR (by simp [ev, look, V.cells, V.one]) ?_
  intro b1 hb1
  have g1 := upd_same σ b1 [V.int .i64 xa, V.int .i64 xf, V.int .i64 w, V.int .i64 d, V.int .i64 N]
  have hσ := le_upd (cs := [V.int .i64 xa, V.int .i64 xf, V.int .i64 w, V.int .i64 d, V.int .i64 N]) hb1
  simp (disch := omega) only [go_sem]
  generalize upd σ b1 [V.int .i64 xa, V.int .i64 xf, V.int .i64 w, V.int .i64 d, V.int .i64 N] = s1 at *
  rcases (by omega : d = 1 ∨ d = 2 ∨ d = 3 ∨ d = 4) with rfl | rfl | rfl | rfl
  · simp (disch := omega) only [g1, go_sem]
    exact W_retC c103_ok rfl (Conv.drop _ hσ) ⟨rfl, rfl⟩
  · simp (disch := omega) only [g1, go_sem]
    refine SRun.callR (Itoa_ok hg (by omega) (by omega)) ⟨[], rfl, rfl⟩ rfl ?_
    simp (disch := omega) only [List.length_cons, List.length_nil, go_sem]
    exact W_retC c103_ok rfl (Conv.drop _ hσ) ⟨rfl, rfl⟩
  · simp (disch := omega) only [g1, go_sem]
    exact W_retC c103_ok rfl (Conv.drop _ hσ) ⟨rfl, rfl⟩
  · simp (disch := omega) only [g1, go_sem]
    exact W_retC c103_ok rfl (Conv.drop _ hσ) ⟨rfl, rfl⟩
end Go.Proofs.YtjibkkhgejcjeaaGreatDoor.Lg
/- A network's text, as the program writes it. -/
set_option linter.unusedSimpArgs false
set_option linter.unusedVariables false
namespace Go.Proofs.YtjibkkhgejcjeaaGreatDoor.Lg
open Go Go.Lib
attribute [local irreducible] SRun DS DRun
variable {Γ : St} {σ σ0 : St}
/-- Lines, one behind the other. -/
def catN (W : Nat → List Wrd) : Nat → List UInt8
  | 0 => []
  | i + 1 => catN W i ++ lnT (W i)
theorem catN_step (p : List UInt8) (W : Nat → List Wrd) (i : Nat) : (p ++ catN W i) ++ lnT (W i) = p ++ catN W (i + 1) := by rw [List.append_assoc]; rfl
theorem catN_len {W : Nat → List Wrd} {n : Nat} (h : ∀ i, i < n → (jnB (W i)).length ≤ 160) : ∀ i, i ≤ n → (catN W i).length ≤ 161 * i := by
  intro i
  induction i with
  | zero => intro _; simp [catN]
  | succ i ih => intro hi; have := ih (by omega); have := h i (by omega); simp only [catN, lnT, List.length_append, List.length_singleton]; omega
theorem catN_map {α : Type} {d : α} {f : α → List Wrd} : ∀ {xs : List α}, ∀ i, i ≤ xs.length → catN (fun j => f (xs.getD j d)) i = ((xs.take i).map f).flatMap lnT := by
  intro xs i
  induction i with
  | zero => intro _; rfl
  | succ i ih =>
    intro hi
    have e : xs.getD i d = xs[i] := by simp [List.getD, (by omega : i < xs.length)]
    rw [take_snoc d (by omega), List.map_append, List.flatMap_append, ← ih (by omega)]
    show catN _ i ++ lnT (f (xs.getD i d)) = _
    rw [e]; simp
theorem catN_all {α : Type} {d : α} {f : α → List Wrd} {xs : List α} : catN (fun j => f (xs.getD j d)) xs.length = (xs.map f).flatMap lnT := by
  rw [catN_map xs.length (Nat.le_refl _), List.take_length]
theorem catN_range (f : Nat → List Wrd) : ∀ n, catN f n = ((List.range n).map f).flatMap lnT := by
  intro n
  induction n with
  | zero => rfl
  | succ n ih => rw [List.range_succ, List.map_append, List.flatMap_append, ← ih]; simp [catN]
/-- The text, part by part. -/
theorem netT_cat (n : Net) : netT n = ((((catN (routW n) n.routers.length ++ catN (fun i => linkW n (n.links.getD i default)) n.links.length) ++ catN (fun i => origW n (n.origins.getD i 0)) n.origins.length) ++ catN (fun i => extW n (n.externals.getD i 0)) n.externals.length) ++ catN (fun i => impW n (n.imports.getD i default)) n.imports.length) ++ catN (fun i => filW n (n.filters.getD i default)) n.filters.length := by
  rw [catN_range, catN_all, catN_all, catN_all, catN_all, catN_all]
  simp [netT, linesN]
/-- What a right network's lines are. -/
structure NetX (n : Net) : Prop where
  r4 : n.routers.length ≤ 4
  l6 : n.links.length ≤ 6
  o4 : n.origins.length ≤ 4
  x2 : n.externals.length ≤ 2
  i12 : n.imports.length ≤ 12
  f6 : n.filters.length ≤ 6
  ends : ∀ i, i < n.links.length → (0 ≤ (n.links.getD i default).a ∧ (n.links.getD i default).a < n.routers.length) ∧ (0 ≤ (n.links.getD i default).b ∧ (n.links.getD i default).b < n.routers.length)
  cost : ∀ i, i < n.links.length → 1 ≤ (n.links.getD i default).cost ∧ (n.links.getD i default).cost ≤ 100
  org : ∀ i, i < n.origins.length → 0 ≤ n.origins.getD i 0 ∧ n.origins.getD i 0 < n.routers.length
  ext : ∀ i, i < n.externals.length → 0 ≤ n.externals.getD i 0 ∧ n.externals.getD i 0 < n.routers.length
  imp : ∀ i, i < n.imports.length → impB (n.imports.getD i default) = true ∧ (0 ≤ (n.imports.getD i default).at_ ∧ (n.imports.getD i default).at_ < n.routers.length) ∧ (0 ≤ (n.imports.getD i default).from_ ∧ (n.imports.getD i default).from_ < n.routers.length)
  fil : ∀ i, i < n.filters.length → (0 ≤ (n.filters.getD i default).low ∧ (n.filters.getD i default).low ≤ (n.filters.getD i default).high ∧ (n.filters.getD i default).high ≤ 15) ∧ (0 ≤ (n.filters.getD i default).at_ ∧ (n.filters.getD i default).at_ < n.routers.length) ∧ (0 ≤ (n.filters.getD i default).to ∧ (n.filters.getD i default).to < n.routers.length)
  names : ∀ x : Int, (nmN n x).length ≤ 40
  rout : ∀ i, i < n.routers.length → (jnB (routW n i)).length ≤ 160
  link : ∀ i, i < n.links.length → (jnB (linkW n (n.links.getD i default))).length ≤ 160
  orig : ∀ i, i < n.origins.length → (jnB (origW n (n.origins.getD i 0))).length ≤ 160
  extl : ∀ i, i < n.externals.length → (jnB (extW n (n.externals.getD i 0))).length ≤ 160
  impl : ∀ i, i < n.imports.length → (jnB (impW n (n.imports.getD i default))).length ≤ 160
  fill : ∀ i, i < n.filters.length → (jnB (filW n (n.filters.getD i default))).length ≤ 160
theorem netX_of {n : Net} (hB : netB n = true) : NetX n := by
  have hR := netR_of hB
  have hcm := chain_mem (net_chain hB)
  have hjl : ∀ ws ∈ linesN n, (jnB ws).length ≤ 160 := fun ws hw => by obtain ⟨a, b, h⟩ := hcm ws hw; exact (adds_line h).2.2
  simp only [netB, Bool.and_eq_true, decide_eq_true_eq, List.all_eq_true] at hB
  obtain ⟨⟨⟨⟨⟨⟨⟨⟨⟨⟨⟨h1, h2⟩, h3⟩, h4⟩, h5⟩, h6⟩, h7⟩, h8⟩, h9⟩, h10⟩, h11⟩, h12⟩ := hB
  have ends : ∀ {a b : Int}, 0 ≤ linkP n.links a b → (0 ≤ a ∧ a < n.routers.length) ∧ (0 ≤ b ∧ b < n.routers.length) := fun {a b} h => by
    obtain ⟨l, hl, hj⟩ := link_mem h
    have he := hR.ends l hl
    simp only [joinB, Bool.or_eq_true, Bool.and_eq_true, decide_eq_true_eq] at hj
    omega
  have ro := fun i hi => rise_all h10 i hi
  have rx := fun i hi => rise_all h11 i hi
  refine ⟨h2, h3, ?_, h12, h4, h5, fun i hi => hR.ends _ (getD_mem _ hi), fun i hi => hR.cost _ (getD_mem _ hi), fun i hi => ?_, fun i hi => ?_, fun i hi => ?_, fun i hi => ?_, fun x => ?_, fun i hi => ?_, fun i hi => ?_, fun i hi => ?_, fun i hi => ?_, fun i hi => ?_, fun i hi => ?_⟩
  · rcases Nat.lt_or_ge 4 n.origins.length with h | h
    · have := ro 4 h; omega
    · exact h
  · have := ro i hi; omega
  · have := rx i hi; omega
  · have h := h8 _ (getD_mem default hi)
    simp only [impOn, Bool.and_eq_true, decide_eq_true_eq] at h
    exact ⟨h.2, ends h.1⟩
  · have h := h9 _ (getD_mem default hi)
    simp only [filOn, inB, Bool.and_eq_true, decide_eq_true_eq] at h
    have := ends h.1.1
    exact ⟨by omega, this⟩
  · unfold nmN
    by_cases hi : x.toNat < n.routers.length
    · have := h6 x.toNat (List.mem_range.2 hi)
      simp only [nameAt, nameB, Bool.and_eq_true, decide_eq_true_eq] at this
      omega
    · rw [List.getD_eq_getElem?_getD, List.getElem?_eq_none (by omega)]; simp
  · exact hjl _ (List.mem_append.2 (.inl (List.mem_map.2 ⟨i, List.mem_range.2 hi, rfl⟩)))
  · exact hjl _ (List.mem_append.2 (.inr (List.mem_append.2 (.inl (List.mem_map.2 ⟨_, getD_mem _ hi, rfl⟩)))))
  · exact hjl _ (List.mem_append.2 (.inr (List.mem_append.2 (.inr (List.mem_append.2 (.inl (List.mem_map.2 ⟨_, getD_mem _ hi, rfl⟩)))))))
  · exact hjl _ (List.mem_append.2 (.inr (List.mem_append.2 (.inr (List.mem_append.2 (.inr (List.mem_append.2 (.inl (List.mem_map.2 ⟨_, getD_mem _ hi, rfl⟩)))))))))
  · exact hjl _ (List.mem_append.2 (.inr (List.mem_append.2 (.inr (List.mem_append.2 (.inr (List.mem_append.2 (.inr (List.mem_append.2 (.inl (List.mem_map.2 ⟨_, getD_mem _ hi, rfl⟩)))))))))))
  · exact hjl _ (List.mem_append.2 (.inr (List.mem_append.2 (.inr (List.mem_append.2 (.inr (List.mem_append.2 (.inr (List.mem_append.2 (.inr (List.mem_map.2 ⟨_, getD_mem _ hi, rfl⟩)))))))))))
set_option maxHeartbeats 2000000 in
theorem netText_ok (hg : NumG Γ) (hw1 : Γ 1 = some (strsV whenP)) {n : Net} (hB : netB n = true) : Ret Tryz.prog Γ 51 [netV n] σ (.str (netT n)) σ := by
  have hX := netX_of hB
  have r4 := hX.r4
  have l6 := hX.l6
  have o4 := hX.o4
  have x2 := hX.x2
  have i12 := hX.i12
  have f6 := hX.f6
  have hl6 : (netC n).length = 6 := rfl
  have ht6 : (netC n).take 6 = netC n := rfl
  have n0 : (netC n)[0]? = some (.isl false 1 (strsV n.routers)) := rfl
  have n1 : (netC n)[1]? = some (.isl false 3 (linksV n.links)) := rfl
  have n2 : (netC n)[2]? = some (.isl false 1 (ints n.origins)) := rfl
  have n3 : (netC n)[3]? = some (.isl false 1 (ints n.externals)) := rfl
  have n4 : (netC n)[4]? = some (.isl false 5 (impsV n.imports)) := rfl
  have n5 : (netC n)[5]? = some (.isl false 4 (filsV n.filters)) := rfl
  rw [netT_cat]
  refine ret_of c51_ok rfl ?_
  simp (disch := omega) only [c51, netV, go_sem]
  refine SRun.boxR (net_one n) ?_
  intro b1 hb1
  have g1 := upd_same σ b1 (netC n)
  have hσ := le_upd (cs := netC n) hb1
  simp (disch := omega) only [go_sem]
  generalize upd σ b1 (netC n) = s1 at *
  refine SRun.allocT ?_
  intro b3 hb3
  have hB0 := BldAt.start hb3
  generalize upd s1 b3 [.bnil b3 147 2, .nsl] = s2 at *
  have g2 := hB0.le _ _ g1
  simp (disch := omega) only [g2, n0, hl6, strsV_len, go_sem]
  refine W_loopC (α := Nat × St) (fun a => a.1 ≤ n.routers.length ∧ BldAt s1 b3 (catN (routW n) a.1) a.2) (fun a => [(1, .ptr b1 0), (3, .ptr b3 0), (4, .fn 100 [.ptr b3 0]), (19, .isl false 1 (strsV n.routers)), (20, .int .i64 n.routers.length), (21, .int .i64 (a.1 : Nat))]) (fun a => a.2) (fun a => n.routers.length - a.1) (0, s2) ⟨by simp, hB0⟩ (by simp (disch := omega) only [subT, Int.natCast_add, Int.cast_ofNat_Int, go_sem] <;> (repeat' apply And.intro) <;> first | rfl | (congr 1; omega) | assumption) rfl ?_
  rintro ⟨i, s⟩ ⟨hi, hBd⟩ ih
  dsimp only at hi hBd
  have hcl := catN_len hX.rout i hi
  simp (disch := omega) only [go_sem]
  first | refine iteW_dec (fun hq => ?_) (fun hq => ?_) | refine iteW_of (fun hq => ?_) (fun hq => ?_)
  · have hi' : i < n.routers.length := by omega
    simp (disch := omega) only [go_sem]
    refine SRun.callQ (put_ok (ws := routW n i) hBd (by simp [routW]) (by simp [routW]) (by have := hX.rout i hi'; omega) (by omega)) ⟨[.ptr b3 0], rfl, rfl⟩ rfl ?_
    rintro r s' ⟨rfl, hBd'⟩
    simp (disch := omega) only [go_sem]
    exact ih (i + 1, s') _ _ ⟨by simp only; omega, hBd'⟩ (by simp only; omega) (by simp (disch := omega) only [subT, Int.natCast_add, Int.cast_ofNat_Int, go_sem] <;> (repeat' apply And.intro) <;> first | rfl | (congr 1; omega) | assumption) rfl
  obtain rfl : i = n.routers.length := by omega
  clear ih
  have g1s := hBd.le _ _ g1
  simp (disch := omega) only [g1s, n1, hl6, linksV_len, go_sem]
  have hAl : (catN (routW n) n.routers.length).length ≤ 1000 := by omega
  generalize catN (routW n) n.routers.length = A at *
  refine W_loopC (α := Nat × St) (fun a => a.1 ≤ n.links.length ∧ BldAt s1 b3 (A ++ catN (fun i => linkW n (n.links.getD i default)) a.1) a.2) (fun a => [(1, .ptr b1 0), (3, .ptr b3 0), (4, .fn 100 [.ptr b3 0]), (31, .isl false 3 (linksV n.links)), (32, .int .i64 n.links.length), (33, .int .i64 (a.1 : Nat))]) (fun a => a.2) (fun a => n.links.length - a.1) (0, s) ⟨by simp, by simpa [catN] using hBd⟩ (by simp (disch := omega) only [subT, Int.natCast_add, Int.cast_ofNat_Int, go_sem] <;> (repeat' apply And.intro) <;> first | rfl | (congr 1; omega) | assumption) rfl ?_
  clear hcl hBd g1s
  rintro ⟨i, s⟩ ⟨hi, hBd⟩ ih
  dsimp only at hi hBd
  have hcl := catN_len hX.link i hi
  have hlen : (A ++ catN (fun i => linkW n (n.links.getD i default)) i).length ≤ 1000 + 161 * 6 := by rw [List.length_append]; omega
  simp (disch := omega) only [go_sem]
  first | refine iteW_dec (fun hq => ?_) (fun hq => ?_) | refine iteW_of (fun hq => ?_) (fun hq => ?_)
  · have hi' : i < n.links.length := by omega
    obtain ⟨⟨e1, e2⟩, e3, e4⟩ := hX.ends i hi'
    obtain ⟨c1, c2⟩ := hX.cost i hi'
    have hjl := hX.link i hi'
    have hst := catN_step A (fun i => linkW n (n.links.getD i default)) i
    simp (disch := omega) only [go_sem]
    simp (disch := omega) only [linkC, go_sem]
    refine SRun.allocR ?_
    intro b8 hb8
    have hB8 := hBd.mono (le_upd (cs := [.int .i64 (n.links.getD i default).a, .int .i64 (n.links.getD i default).b, .int .i64 (n.links.getD i default).cost]) hb8)
    have q8 := upd_same s b8 [.int .i64 (n.links.getD i default).a, .int .i64 (n.links.getD i default).b, .int .i64 (n.links.getD i default).cost]
    simp (disch := omega) only [upd_same, upd_upd, go_sem]
    generalize upd s b8 [.int .i64 (n.links.getD i default).a, .int .i64 (n.links.getD i default).b, .int .i64 (n.links.getD i default).cost] = s5 at *
    have q1 := hB8.le _ _ g1
    refine W_drawW ?_
    refine DRun.mixE rfl ?_
    simp (disch := omega) only [q1, q8, n0, hl6, go_sem]
    refine DS.callB (Itoa_ok hg (by omega) (by omega)) ⟨[], rfl, rfl⟩ rfl rfl ?_
    simp (disch := omega) only [true_and, go_sem]
    refine DRun.callQ (put_ok (ws := linkW n (n.links.getD i default)) hB8 (by simp [linkW]) (by simp [linkW]) (by omega) (by omega)) ⟨[.ptr b3 0], rfl, rfl⟩ ?_
    rintro r s' ⟨rfl, hBd'⟩
    rw [hst] at hBd'
    simp (disch := omega) only [go_sem]
    exact ih (i + 1, s') _ _ ⟨by simp only; omega, hBd'⟩ (by simp only; omega) (by simp (disch := omega) only [subT, Int.natCast_add, Int.cast_ofNat_Int, go_sem] <;> (repeat' apply And.intro) <;> first | rfl | (congr 1; omega) | assumption) rfl
  obtain rfl : i = n.links.length := by omega
  clear ih
  have g1s := hBd.le _ _ g1
  simp (disch := omega) only [g1s, n2, hl6, ints_len, go_sem]
  have hA2 : (A ++ catN (fun i => linkW n (n.links.getD i default)) n.links.length).length ≤ 2000 := by omega
  clear hAl hlen hcl
  generalize A ++ catN (fun i => linkW n (n.links.getD i default)) n.links.length = A2 at *
  refine W_loopC (α := Nat × St) (fun a => a.1 ≤ n.origins.length ∧ BldAt s1 b3 (A2 ++ catN (fun i => origW n (n.origins.getD i 0)) a.1) a.2) (fun a => [(1, .ptr b1 0), (3, .ptr b3 0), (4, .fn 100 [.ptr b3 0]), (57, .isl false 1 (ints n.origins)), (58, .int .i64 n.origins.length), (59, .int .i64 (a.1 : Nat))]) (fun a => a.2) (fun a => n.origins.length - a.1) (0, s) ⟨by simp, by simpa [catN] using hBd⟩ (by simp (disch := omega) only [subT, Int.natCast_add, Int.cast_ofNat_Int, go_sem] <;> (repeat' apply And.intro) <;> first | rfl | (congr 1; omega) | assumption) rfl ?_
  clear hBd g1s
  rintro ⟨i, s⟩ ⟨hi, hBd⟩ ih
  dsimp only at hi hBd
  have hcl := catN_len hX.orig i hi
  have hlen : (A2 ++ catN (fun i => origW n (n.origins.getD i 0)) i).length ≤ 2000 + 161 * 4 := by rw [List.length_append]; omega
  simp (disch := omega) only [go_sem]
  first | refine iteW_dec (fun hq => ?_) (fun hq => ?_) | refine iteW_of (fun hq => ?_) (fun hq => ?_)
  · have hi' : i < n.origins.length := by omega
    obtain ⟨e1, e2⟩ := hX.org i hi'
    have hjl := hX.orig i hi'
    have hst := catN_step A2 (fun i => origW n (n.origins.getD i 0)) i
    have q1 := hBd.le _ _ g1
    simp (disch := omega) only [q1, n0, hl6, go_sem]
    refine SRun.callQ (put_ok (ws := origW n (n.origins.getD i 0)) hBd (by simp [origW]) (by simp [origW]) (by omega) (by omega)) ⟨[.ptr b3 0], rfl, rfl⟩ rfl ?_
    rintro r s' ⟨rfl, hBd'⟩
    rw [hst] at hBd'
    simp (disch := omega) only [go_sem]
    exact ih (i + 1, s') _ _ ⟨by simp only; omega, hBd'⟩ (by simp only; omega) (by simp (disch := omega) only [subT, Int.natCast_add, Int.cast_ofNat_Int, go_sem] <;> (repeat' apply And.intro) <;> first | rfl | (congr 1; omega) | assumption) rfl
  obtain rfl : i = n.origins.length := by omega
  clear ih
  have g1s := hBd.le _ _ g1
  simp (disch := omega) only [g1s, n3, hl6, ints_len, go_sem]
  have hA3 : (A2 ++ catN (fun i => origW n (n.origins.getD i 0)) n.origins.length).length ≤ 2644 := by omega
  clear hlen hcl
  generalize A2 ++ catN (fun i => origW n (n.origins.getD i 0)) n.origins.length = A3 at *
  refine W_loopC (α := Nat × St) (fun a => a.1 ≤ n.externals.length ∧ BldAt s1 b3 (A3 ++ catN (fun i => extW n (n.externals.getD i 0)) a.1) a.2) (fun a => [(1, .ptr b1 0), (3, .ptr b3 0), (4, .fn 100 [.ptr b3 0]), (73, .isl false 1 (ints n.externals)), (74, .int .i64 n.externals.length), (75, .int .i64 (a.1 : Nat))]) (fun a => a.2) (fun a => n.externals.length - a.1) (0, s) ⟨by simp, by simpa [catN] using hBd⟩ (by simp (disch := omega) only [subT, Int.natCast_add, Int.cast_ofNat_Int, go_sem] <;> (repeat' apply And.intro) <;> first | rfl | (congr 1; omega) | assumption) rfl ?_
  clear hBd g1s
  rintro ⟨i, s⟩ ⟨hi, hBd⟩ ih
  dsimp only at hi hBd
  have hcl := catN_len hX.extl i hi
  have hlen : (A3 ++ catN (fun i => extW n (n.externals.getD i 0)) i).length ≤ 2644 + 161 * 2 := by rw [List.length_append]; omega
  simp (disch := omega) only [go_sem]
  first | refine iteW_dec (fun hq => ?_) (fun hq => ?_) | refine iteW_of (fun hq => ?_) (fun hq => ?_)
  · have hi' : i < n.externals.length := by omega
    obtain ⟨e1, e2⟩ := hX.ext i hi'
    have hjl := hX.extl i hi'
    have hst := catN_step A3 (fun i => extW n (n.externals.getD i 0)) i
    have q1 := hBd.le _ _ g1
    simp (disch := omega) only [q1, n0, hl6, go_sem]
    refine SRun.callQ (put_ok (ws := extW n (n.externals.getD i 0)) hBd (by simp [extW]) (by simp [extW]) (by omega) (by omega)) ⟨[.ptr b3 0], rfl, rfl⟩ rfl ?_
    rintro r s' ⟨rfl, hBd'⟩
    rw [hst] at hBd'
    simp (disch := omega) only [go_sem]
    exact ih (i + 1, s') _ _ ⟨by simp only; omega, hBd'⟩ (by simp only; omega) (by simp (disch := omega) only [subT, Int.natCast_add, Int.cast_ofNat_Int, go_sem] <;> (repeat' apply And.intro) <;> first | rfl | (congr 1; omega) | assumption) rfl
  obtain rfl : i = n.externals.length := by omega
  clear ih
  have g1s := hBd.le _ _ g1
  simp (disch := omega) only [g1s, n4, hl6, impsV_len, go_sem]
  have hA4 : (A3 ++ catN (fun i => extW n (n.externals.getD i 0)) n.externals.length).length ≤ 2966 := by omega
  clear hlen hcl
  generalize A3 ++ catN (fun i => extW n (n.externals.getD i 0)) n.externals.length = A4 at *
  have hev : ∀ T, ev Γ T (.g 1) = .iptr (strsV whenP) := fun T => by simp [ev, hw1]
  have hw3 : (strsV whenP).length = 3 := rfl
  refine W_loopC (α := Nat × St) (fun a => a.1 ≤ n.imports.length ∧ BldAt s1 b3 (A4 ++ catN (fun i => impW n (n.imports.getD i default)) a.1) a.2) (fun a => [(1, .ptr b1 0), (3, .ptr b3 0), (4, .fn 100 [.ptr b3 0]), (89, .isl false 5 (impsV n.imports)), (90, .int .i64 n.imports.length), (91, .int .i64 (a.1 : Nat))]) (fun a => a.2) (fun a => n.imports.length - a.1) (0, s) ⟨by simp, by simpa [catN] using hBd⟩ (by simp (disch := omega) only [subT, Int.natCast_add, Int.cast_ofNat_Int, go_sem] <;> (repeat' apply And.intro) <;> first | rfl | (congr 1; omega) | assumption) rfl ?_
  clear hBd g1s
  rintro ⟨i, s⟩ ⟨hi, hBd⟩ ih
  dsimp only at hi hBd
  have hcl := catN_len hX.impl i hi
  have hlen : (A4 ++ catN (fun i => impW n (n.imports.getD i default)) i).length ≤ 3000 + 161 * 12 := by rw [List.length_append]; omega
  simp (disch := omega) only [go_sem]
  first | refine iteW_dec (fun hq => ?_) (fun hq => ?_) | refine iteW_of (fun hq => ?_) (fun hq => ?_)
  · have hi' : i < n.imports.length := by omega
    obtain ⟨hib, ⟨e1, e2⟩, e3, e4⟩ := hX.imp i hi'
    have hjl := hX.impl i hi'
    have hst := catN_step A4 (fun i => impW n (n.imports.getD i default)) i
    obtain ⟨wl, dl⟩ := imp_lens hib
    have nA := hX.names (n.imports.getD i default).at_
    have nB := hX.names (n.imports.getD i default).from_
    have hwh : 0 ≤ (n.imports.getD i default).when_ ∧ (n.imports.getD i default).when_ ≤ 2 := by
      have := hib
      simp only [impB, inB, Bool.and_eq_true, decide_eq_true_eq] at this
      exact this.1.1
    have hjn := imp_jn n (n.imports.getD i default)
    have hdo := fun σ => doText_ok (Γ := Γ) (σ := σ) hg hib
    have hwt : (List.drop (n.imports.getD i default).when_.toNat (strsV whenP))[0]? = some (.str (whenT (n.imports.getD i default))) := by
      generalize n.imports.getD i default = x at *
      unfold whenT
      rcases (by omega : x.when_ = 0 ∨ x.when_ = 1 ∨ x.when_ = 2) with h | h | h <;> rw [h] <;> rfl
    simp (disch := omega) only [go_sem]
    simp (disch := omega) only [impC, go_sem]
    refine SRun.allocR ?_
    intro b8 hb8
    have hB8 := hBd.mono (le_upd (cs := [.int .i64 (n.imports.getD i default).at_, .int .i64 (n.imports.getD i default).from_, .int .i64 (n.imports.getD i default).when_, .int .i64 (n.imports.getD i default).do_, .int .i64 (n.imports.getD i default).n]) hb8)
    have q8 := upd_same s b8 [.int .i64 (n.imports.getD i default).at_, .int .i64 (n.imports.getD i default).from_, .int .i64 (n.imports.getD i default).when_, .int .i64 (n.imports.getD i default).do_, .int .i64 (n.imports.getD i default).n]
    simp (disch := omega) only [upd_same, upd_upd, go_sem]
    generalize upd s b8 [.int .i64 (n.imports.getD i default).at_, .int .i64 (n.imports.getD i default).from_, .int .i64 (n.imports.getD i default).when_, .int .i64 (n.imports.getD i default).do_, .int .i64 (n.imports.getD i default).n] = s5 at *
    have q1 := hB8.le _ _ g1
    refine W_drawW ?_
    refine DRun.mixE rfl ?_
    have nA' : (n.routers.getD (n.imports.getD i default).at_.toNat []).length ≤ 40 := nA
    have nB' : (n.routers.getD (n.imports.getD i default).from_.toNat []).length ≤ 40 := nB
    simp (disch := omega) only [q1, q8, n0, hl6, hev, hw3, hwt, go_sem]
    refine DS.callB (hdo _) ⟨[], rfl, rfl⟩ rfl rfl ?_
    simp (disch := omega) only [true_and, List.length_append, go_sem]
    have hjl2 : (jnB [wImport, nmN n (n.imports.getD i default).at_, wFrom, nmN n (n.imports.getD i default).from_ ++ whenT (n.imports.getD i default) ++ doT (n.imports.getD i default)]).length ≤ 160 := by rw [hjn]; exact hjl
    refine DRun.callQ (put_ok (ws := [wImport, nmN n (n.imports.getD i default).at_, wFrom, nmN n (n.imports.getD i default).from_ ++ whenT (n.imports.getD i default) ++ doT (n.imports.getD i default)]) hB8 (by simp) (by simp) (by omega) (by omega)) ⟨[.ptr b3 0], rfl, rfl⟩ ?_
    rintro r s' ⟨rfl, hBd'⟩
    unfold lnT at hBd'
    rw [hjn] at hBd'
    have hBd2 : BldAt s1 b3 (A4 ++ catN (fun i => impW n (n.imports.getD i default)) (i + 1)) s' := by rw [← hst]; exact hBd'
    simp (disch := omega) only [go_sem]
    exact ih (i + 1, s') _ _ ⟨by simp only; omega, hBd2⟩ (by simp only; omega) (by simp (disch := omega) only [subT, Int.natCast_add, Int.cast_ofNat_Int, go_sem] <;> (repeat' apply And.intro) <;> first | rfl | (congr 1; omega) | assumption) rfl
  obtain rfl : i = n.imports.length := by omega
  clear ih
  have g1s := hBd.le _ _ g1
  simp (disch := omega) only [g1s, n5, hl6, filsV_len, go_sem]
  have hA5 : (A4 ++ catN (fun i => impW n (n.imports.getD i default)) n.imports.length).length ≤ 5000 := by omega
  clear hlen hcl
  generalize A4 ++ catN (fun i => impW n (n.imports.getD i default)) n.imports.length = A5 at *
  refine W_loopC (α := Nat × St) (fun a => a.1 ≤ n.filters.length ∧ BldAt s1 b3 (A5 ++ catN (fun i => filW n (n.filters.getD i default)) a.1) a.2) (fun a => [(1, .ptr b1 0), (3, .ptr b3 0), (4, .fn 100 [.ptr b3 0]), (120, .isl false 4 (filsV n.filters)), (121, .int .i64 n.filters.length), (122, .int .i64 (a.1 : Nat))]) (fun a => a.2) (fun a => n.filters.length - a.1) (0, s) ⟨by simp, by simpa [catN] using hBd⟩ (by simp (disch := omega) only [subT, Int.natCast_add, Int.cast_ofNat_Int, go_sem] <;> (repeat' apply And.intro) <;> first | rfl | (congr 1; omega) | assumption) rfl ?_
  clear hBd g1s
  rintro ⟨i, s⟩ ⟨hi, hBd⟩ ih
  dsimp only at hi hBd
  have hcl := catN_len hX.fill i hi
  have hlen : (A5 ++ catN (fun i => filW n (n.filters.getD i default)) i).length ≤ 5000 + 161 * 6 := by rw [List.length_append]; omega
  simp (disch := omega) only [go_sem]
  first | refine iteW_dec (fun hq => ?_) (fun hq => ?_) | refine iteW_of (fun hq => ?_) (fun hq => ?_)
  · have hi' : i < n.filters.length := by omega
    obtain ⟨hf, ⟨e1, e2⟩, e3, e4⟩ := hX.fil i hi'
    have hjl := hX.fill i hi'
    have hst := catN_step A5 (fun i => filW n (n.filters.getD i default)) i
    simp (disch := omega) only [go_sem]
    simp (disch := omega) only [filC, go_sem]
    refine SRun.allocR ?_
    intro b8 hb8
    have hB8 := hBd.mono (le_upd (cs := [.int .i64 (n.filters.getD i default).at_, .int .i64 (n.filters.getD i default).to, .int .i64 (n.filters.getD i default).low, .int .i64 (n.filters.getD i default).high]) hb8)
    have q8 := upd_same s b8 [.int .i64 (n.filters.getD i default).at_, .int .i64 (n.filters.getD i default).to, .int .i64 (n.filters.getD i default).low, .int .i64 (n.filters.getD i default).high]
    simp (disch := omega) only [upd_same, upd_upd, go_sem]
    generalize upd s b8 [.int .i64 (n.filters.getD i default).at_, .int .i64 (n.filters.getD i default).to, .int .i64 (n.filters.getD i default).low, .int .i64 (n.filters.getD i default).high] = s5 at *
    have q1 := hB8.le _ _ g1
    refine W_drawW ?_
    refine DRun.mixE rfl ?_
    simp (disch := omega) only [q1, q8, n0, hl6, go_sem]
    refine DS.callB (Itoa_ok hg (by omega) (by omega)) ⟨[], rfl, rfl⟩ rfl rfl ?_
    simp (disch := omega) only [true_and, go_sem]
    refine DS.callB (Itoa_ok hg (by omega) (by omega)) ⟨[], rfl, rfl⟩ rfl rfl ?_
    simp (disch := omega) only [true_and, go_sem]
    refine DRun.callQ (put_ok (ws := filW n (n.filters.getD i default)) hB8 (by simp [filW]) (by simp [filW]) (by omega) (by omega)) ⟨[.ptr b3 0], rfl, rfl⟩ ?_
    rintro r s' ⟨rfl, hBd'⟩
    rw [hst] at hBd'
    simp (disch := omega) only [go_sem]
    exact ih (i + 1, s') _ _ ⟨by simp only; omega, hBd'⟩ (by simp only; omega) (by simp (disch := omega) only [subT, Int.natCast_add, Int.cast_ofNat_Int, go_sem] <;> (repeat' apply And.intro) <;> first | rfl | (congr 1; omega) | assumption) rfl
  obtain rfl : i = n.filters.length := by omega
  clear ih
  simp (disch := omega) only [go_sem]
  refine SRun.callR (String_ok hBd (by omega)) ⟨[], rfl, rfl⟩ rfl ?_
  simp (disch := omega) only [go_sem]
  exact W_retC c51_ok rfl (Conv.drop _ hσ) ⟨rfl, rfl⟩
end Go.Proofs.YtjibkkhgejcjeaaGreatDoor.Lg
