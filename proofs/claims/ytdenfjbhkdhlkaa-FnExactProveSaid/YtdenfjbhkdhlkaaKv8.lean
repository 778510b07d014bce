/- What is told of the functions that are reached, as far as it is asked here. -/
import Derived.Test.YtdenfjbhkdhlkaaKv7
import Derived.KernelRfl
set_option linter.unusedSimpArgs false
set_option linter.unusedVariables false
namespace Go.Proofs.Ytdenfjbhkdhlkaa.Lg
open Go
section
attribute [local irreducible] SRun DS DRun
variable {Γ : St} {σ σ0 : St}
theorem none_of {s t : St} (h : ∀ b c, s b = some c → t b = some c) : ∀ b, t b = none → s b = none := fun b hb => by
 cases e : s b with
 | none => rfl
 | some c => rw [h b c e] at hb; cases hb
def blk : V → Option Nat
 | .msl b _ _ _ _ => some b
 | _ => none
/-- A list that is owned, and what it holds. -/
def At (σ : St) (es : Nat) (xs : List V) (q : V) : Prop := (∀ x ∈ xs, x.cells.length = es ∧ ∀ c ∈ x.cells, c.one = true) ∧ ((xs = [] ∧ ∃ es', q = .isl true es' []) ∨ ∃ b cap, q = .msl b es 0 xs.length cap ∧ σ b = some (flat xs))
def wrt (σ : St) (q : V) (cs : List V) : St := match q with
 | .msl b _ _ _ _ => upd σ b cs
 | _ => σ
theorem wrt_msl (b es off len cap : Nat) (cs : List V) : wrt σ (.msl b es off len cap) cs = upd σ b cs := rfl
theorem wrt_ne {q : V} {cs : List V} {d : Nat} (h : blk q ≠ some d) : wrt σ q cs d = σ d := by
 cases q <;> first | rfl | (simp only [wrt]; exact upd_ne _ _ (fun e => h (by rw [e]; rfl)))
theorem At.one {es : Nat} {xs : List V} {q : V} (h : At σ es xs q) : q.one = true := by
 rcases h.2 with ⟨_, _, rfl⟩ | ⟨_, _, rfl, _⟩ <;> rfl
theorem At.cells {es : Nat} {xs : List V} {q : V} (h : At σ es xs q) : q.cells = [q] := by
 rcases h.2 with ⟨_, _, rfl⟩ | ⟨_, _, rfl, _⟩ <;> rfl
theorem At.has {es : Nat} {xs : List V} {q : V} (h : At σ es xs q) {b : Nat} (hb : blk q = some b) : σ b = some (flat xs) := by
 rcases h.2 with ⟨_, _, rfl⟩ | ⟨_, _, rfl, h2⟩
 ·cases hb
 ·simp only [blk, Option.some.injEq] at hb; subst hb; exact h2
theorem At.to {es : Nat} {xs : List V} {q : V} (h : At σ es xs q) {s : St} (hs : ∀ b, blk q = some b → s b = σ b) : At s es xs q := by
 refine ⟨h.1, ?_⟩
 rcases h.2 with h2 | ⟨b, cap, rfl, h2⟩
 ·exact .inl h2
 ·exact .inr ⟨b, cap, rfl, by rw [hs b rfl]; exact h2⟩
theorem At.mono {es : Nat} {xs : List V} {q : V} (h : At σ es xs q) {s : St} (hs : ∀ b c, σ b = some c → s b = some c) : At s es xs q :=
 h.to fun b hb => by rw [hs b _ (h.has hb), h.has hb]
theorem At.wrt {es : Nat} {xs ys : List V} {q : V} (h : At σ es xs q) (hl : ys.length = xs.length) (hy : ∀ x ∈ ys, x.cells.length = es ∧ ∀ c ∈ x.cells, c.one = true) : At (Lg.wrt σ q (flat ys)) es ys q := by
 refine ⟨hy, ?_⟩
 rcases h.2 with ⟨rfl, es', rfl⟩ | ⟨b, cap, rfl, h2⟩
 ·exact .inl ⟨List.eq_nil_of_length_eq_zero hl, es', rfl⟩
 ·exact .inr ⟨b, cap, by rw [hl], upd_same _ _ _⟩
theorem At.frz {es : Nat} {xs : List V} {q : V} {s : St} (h : At σ es xs q) (hs : ∀ b, blk q = some b → s b = none) : Frz σ s q (.isl false es xs) := by
 obtain ⟨hx, h2⟩ := h
 rcases h2 with ⟨rfl, es', rfl⟩ | ⟨b, cap, rfl, h3⟩
 ·exact .isl0 _ _ _ _ (fun h => by cases h)
 ·refine .msl b es 0 xs.length cap (flat xs) xs h3 (hs b rfl) (by rw [flat_length fun x hx' => (hx x hx').1]; omega) rfl (fun x hm => (hx x hm).1) (flat_length fun x hx' => (hx x hx').1) (fun i x hi => flat_ones (fun x hm => (hx x hm).2) x (List.mem_of_getElem? hi)) (fun i x y hy hx' => ?_)
  rw [Nat.zero_add] at hy
  rw [hy] at hx'; obtain rfl := Option.some.inj hx'; exact .refl _
theorem At.lend {es : Nat} {xs : List V} {q : V} (h : At σ es xs q) : Frz σ emp q (.isl false es xs) := h.frz fun _ _ => rfl
theorem OwnL.atQ {es : Nat} {xs : List V} {q : V} (h : OwnL σ0 es xs q σ) : At σ es xs q ∧ ∀ b, blk q = some b → σ0 b = none := by
 obtain ⟨h1, h2⟩ := h
 rcases h1 with ⟨hc, hl, rfl, es', rfl⟩ | ⟨b2, cap, hb, rfl, rfl, h4⟩
 ·exact ⟨⟨h2, .inl ⟨List.eq_nil_of_length_eq_zero hl, es', rfl⟩⟩, fun b hb => by cases hb⟩
 ·exact ⟨⟨h2, .inr ⟨b2, cap, rfl, upd_same _ _ _⟩⟩, fun b hb' => by simp only [blk, Option.some.injEq] at hb'; subst hb'; exact hb⟩
theorem Frz.more {σ σ' s : St} {x y : V} (h : Frz σ σ' x y) (hs : ∀ b c, σ b = some c → s b = some c) : Frz s σ' x y := by
 induction h with
 | refl v => exact .refl v
 | isl ex es xs => exact .isl ex es xs
 | isl0 ex ex2 es es' h => exact .isl0 ex ex2 es es' h
 | msl b es off len cap cs xs hb hb' h1 h2 h3 h4 h5 _ ih => exact .msl b es off len cap cs xs (hs _ _ hb) hb' h1 h2 h3 h4 h5 ih
 | agg cs ds h1 h2 _ ih => exact .agg cs ds h1 h2 ih
 | tup cs ds h1 _ ih => exact .tup cs ds h1 ih
section
variable {P : Program} {σr : St} {T : Ts}
/-- A call in a part that draws, of a function that owns nothing of its own: it is lent what it reads, of all that there is. -/
theorem WrA.lend {d : Option Nat} {x : Opd} {us : List Opd} {g : FuncId} {vs vs' : List V} {Q : V → St → Prop} (h : ACalls P Γ g vs' emp Q) (hfz : disj σ σr → frzL (cup σ σr) emp vs vs') (hQ : ∀ r s, Q r s → Plain r ∧ ∀ b cs, s b = some cs → ∀ c ∈ cs, Plain c)
  (hv : ∃ caps, ev Γ T x = .fn g caps ∧ us.map (ev Γ T) ++ caps = vs) : WrA P Γ σr σ T ⟨d, none, .call x us⟩ fun r s => ∃ s', s = cup s' σ ∧ disj s' σ ∧ disj s' σr ∧ Q r s' := by
 obtain ⟨caps, h1, h2⟩ := hv
 refine .inr ⟨rfl, fun T' hT hd => ?_⟩
 have he := ev_congr (Γ := Γ) (g := ⟨d, none, .call x us⟩) hT
 have hm : us.map (ev Γ T') = us.map (ev Γ T) := List.map_congr_left fun o ho => he o (by simp [I.opds, ho])
 refine InsOK.call (g := g) (caps := caps) (by rw [he x (by simp [I.opds])]; exact h1) ?_
 rw [hm, h2]
 refine ACalls.mono P Γ (ACalls.lend (σ := cup σ σr) h (frzL_len (hfz hd)) (frzL_get (hfz hd)) hQ) ?_
 rintro r s ⟨s', rfl, hd2, hq⟩
 have hd3 : disj s' σ := fun n => by
  rcases hd2 n with h | h
  ·exact .inl h
  ·right
   cases e : σ n with
   | none => rfl
   | some c => rw [cup_of_some e] at h; cases h
 have hd4 : disj s' σr := fun n => by
  rcases hd2 n with h | h
  ·exact .inl h
  ·right
   cases e : σ n with
   | none => simpa [cup, e] using h
   | some c => rw [cup_of_some e] at h; cases h
 refine ⟨cup s' σ, by rw [cup_assoc], fun n => ?_, s', rfl, hd3, hd4, hq⟩
 rcases hd4 n with h | h
 ·rcases hd n with h2 | h2
  ·exact .inl (by simp [cup, h, h2])
  ·exact .inr h2
 ·exact .inr h
end
end
section
attribute [local irreducible] SRun DS DRun
variable {Γ : St} {σ σ0 : St}
/-- Two lists stand in blocks apart. -/
def Apt (q q' : V) : Prop := ∀ b, blk q = some b → blk q' ≠ some b
theorem Apt.symm {q q' : V} (h : Apt q q') : Apt q' q := fun b hb e => h b e hb
theorem At.plain0 {es : Nat} {xs : List V} {q : V} (h : At σ es xs q) : Plain q := by
 rcases h.2 with ⟨_, _, rfl⟩ | ⟨_, _, rfl, _⟩
 ·exact .isl0 _ _
 ·exact .msl _ _ _ _ _
theorem At.upd {es : Nat} {xs : List V} {q : V} (h : At σ es xs q) {b : Nat} {c : List V} (hb : blk q ≠ some b) : At (Lg.upd σ b c) es xs q := h.to fun d hd => upd_ne _ _ (fun e => hb (by rw [← e]; exact hd))
/-- An element: what stands ahead, and its list. -/
def elV : List V → V → V
 | [], q => q
 | p :: ps, q => .agg (p :: ps ++ [q])
theorem elV_cells {ps : List V} {q : V} (hq : q.cells = [q]) : (elV ps q).cells = ps ++ [q] := by
 cases ps with
 | nil => simpa [elV] using hq
 | cons p ps => rfl
section
variable {α : Type}
/-- The elements' lists: each new, in a block of its own. -/
structure RwAt (σ0 sb : St) (es : Nat) (row : α → List V) (vs : List α) (qs : List V) : Prop where
 len : qs.length = vs.length
 at_ : ∀ (i : Nat) (a : α) (q : V), vs[i]? = some a → qs[i]? = some q → At sb es (row a) q
 new : ∀ m ∈ qs, ∀ b, blk m = some b → σ0 b = none
 ap : ∀ (i j : Nat) (q q' : V), i < j → qs[i]? = some q → qs[j]? = some q' → Apt q q'
variable {es : Nat} {row : α → List V} {vs : List α} {qs : List V} {sb s s0 : St}
theorem RwAt.has (h : RwAt σ0 sb es row vs qs) {m : V} (hm : m ∈ qs) : ∃ a, At sb es (row a) m := by
 obtain ⟨i, hi, rfl⟩ := List.getElem_of_mem hm
 have hl := h.len
 exact ⟨vs[i], h.at_ i vs[i] qs[i] (by simp [show i < vs.length by omega]) (by simp [hi])⟩
theorem RwAt.cells (h : RwAt σ0 sb es row vs qs) {m : V} (hm : m ∈ qs) : m.cells = [m] ∧ m.one = true := by
 obtain ⟨a, ha⟩ := h.has hm; exact ⟨ha.cells, ha.one⟩
theorem RwAt.to (h : RwAt σ0 sb es row vs qs) (hs : ∀ m ∈ qs, ∀ b, blk m = some b → s b = sb b) : RwAt σ0 s es row vs qs :=
 ⟨h.len, fun i a q ha hq => (h.at_ i a q ha hq).to (hs q (List.mem_of_getElem? hq)), h.new, h.ap⟩
theorem RwAt.mono (h : RwAt σ0 sb es row vs qs) (hs : ∀ b c, sb b = some c → s b = some c) : RwAt σ0 s es row vs qs :=
 ⟨h.len, fun i a q ha hq => (h.at_ i a q ha hq).mono hs, h.new, h.ap⟩
theorem RwAt.less (h : RwAt σ0 sb es row vs qs) (hs : ∀ b, σ0 b = none → s0 b = none) : RwAt s0 sb es row vs qs :=
 ⟨h.len, h.at_, fun m hm b hb => hs b (h.new m hm b hb), h.ap⟩
theorem RwAt.nil : RwAt σ0 sb es row [] [] := ⟨rfl, fun i a q h => (by simp at h), fun m hm => (by cases hm), fun i j q q' _ h => (by simp at h)⟩
theorem RwAt.snoc (h : RwAt σ0 sb es row vs qs) {a : α} {r : V} (hr : At sb es (row a) r) (hn : ∀ b, blk r = some b → σ0 b = none) (ha : ∀ m ∈ qs, Apt m r) : RwAt σ0 sb es row (vs ++ [a]) (qs ++ [r]) := by
 have hl := h.len
 refine ⟨by simp [hl], fun i b q hb hq => ?_, fun m hm b hb => ?_, fun i j q q' hij hq hq' => ?_⟩
 ·rcases Nat.lt_or_ge i vs.length with hi | hi
  ·rw [List.getElem?_append_left hi] at hb
   rw [List.getElem?_append_left (by omega)] at hq
   exact h.at_ i b q hb hq
  ·rw [List.getElem?_append_right hi] at hb
   rw [List.getElem?_append_right (by omega)] at hq
   have hi2 := (List.getElem?_eq_some_iff.1 hb).1
   have e : i - vs.length = 0 := by simp at hi2; omega
   have e2 : i - qs.length = 0 := by omega
   rw [e] at hb; rw [e2] at hq
   simp at hb hq; subst hb hq; exact hr
 ·rcases List.mem_append.1 hm with hm | hm
  ·exact h.new m hm b hb
  ·rw [List.mem_singleton.1 hm] at hb; exact hn b hb
 ·rcases Nat.lt_or_ge j qs.length with hj | hj
  ·rw [List.getElem?_append_left (by omega)] at hq
   rw [List.getElem?_append_left hj] at hq'
   exact h.ap i j q q' hij hq hq'
  ·rw [List.getElem?_append_right hj] at hq'
   have hj2 := (List.getElem?_eq_some_iff.1 hq').1
   have e : j - qs.length = 0 := by simp at hj2; omega
   rw [e] at hq'
   simp at hq'; subst hq'
   rw [List.getElem?_append_left (by simp at hj2; omega)] at hq
   exact ha q (List.mem_of_getElem? hq)
/-- The outer list's elements. -/
def els (pre : α → List V) (vs : List α) (qs : List V) : List V := List.zipWith (fun a q => elV (pre a) q) vs qs
theorem els_len {pre : α → List V} (h : qs.length = vs.length) : (els pre vs qs).length = vs.length := by simp [els, h]
theorem els_at {pre : α → List V} {i : Nat} {a : α} {q : V} (ha : vs[i]? = some a) (hq : qs[i]? = some q) : (els pre vs qs)[i]? = some (elV (pre a) q) := by simp [els, List.getElem?_zipWith, ha, hq]
theorem els_get {pre : α → List V} {i : Nat} {x : V} (h : (els pre vs qs)[i]? = some x) : ∃ a q, vs[i]? = some a ∧ qs[i]? = some q ∧ x = elV (pre a) q := by
 unfold els at h
 rw [List.getElem?_zipWith] at h
 cases ha : vs[i]? with
 | none => rw [ha] at h; simp at h
 | some a =>
  cases hq : qs[i]? with
  | none => rw [ha, hq] at h; simp at h
  | some q => rw [ha, hq] at h; simp at h; exact ⟨a, q, rfl, rfl, h.symm⟩
theorem els_snoc {pre : α → List V} (h : qs.length = vs.length) (a : α) (q : V) : els pre (vs ++ [a]) (qs ++ [q]) = els pre vs qs ++ [elV (pre a) q] := by
 unfold els; rw [List.zipWith_append h.symm]; rfl
/-- What stands ahead in each element is plain. -/
structure PreOK (pre : α → List V) (k : Nat) : Prop where
 pos : 0 < k
 len : ∀ a, (pre a).length + 1 = k
 one : ∀ a, ∀ c ∈ pre a, c.one = true ∧ Plain c
theorem els_ok {pre : α → List V} {k : Nat} (hp : PreOK pre k) (h : RwAt σ0 sb es row vs qs) : ∀ x ∈ els pre vs qs, x.cells.length = k ∧ ∀ c ∈ x.cells, c.one = true := by
 intro x hx
 obtain ⟨i, hi, rfl⟩ := List.getElem_of_mem hx
 obtain ⟨a, q, ha, hq, e⟩ := els_get (List.getElem?_eq_getElem hi)
 have hc := h.cells (List.mem_of_getElem? hq)
 rw [e, elV_cells hc.1]
 refine ⟨by simp [hp.len a], fun c hc2 => ?_⟩
 rcases List.mem_append.1 hc2 with h1 | h1
 ·exact (hp.one a c h1).1
 ·rw [List.mem_singleton.1 h1]; exact hc.2
/-- A list of such elements in place: all new, apart. -/
structure LLA (σ0 : St) (k es : Nat) (pre row : α → List V) (vs : List α) (q : V) (qs : List V) (s : St) : Prop where
 at_ : At s k (els pre vs qs) q
 rows : RwAt σ0 s es row vs qs
 new : ∀ b, blk q = some b → σ0 b = none
 ap : ∀ m ∈ qs, Apt m q
variable {pre : α → List V} {k : Nat} {q : V} {t : St}
theorem LLA.nil {es' : Nat} : LLA σ0 k es pre row [] (.isl true es' []) [] s :=
 ⟨⟨fun x hx => (by cases hx), .inl ⟨rfl, es', rfl⟩⟩, RwAt.nil, fun b hb => (by cases hb), fun m hm => (by cases hm)⟩
theorem LLA.to (h : LLA σ0 k es pre row vs q qs s) (h1 : ∀ b, blk q = some b → t b = s b) (h2 : ∀ m ∈ qs, ∀ b, blk m = some b → t b = s b) : LLA σ0 k es pre row vs q qs t :=
 ⟨h.at_.to h1, h.rows.to h2, h.new, h.ap⟩
theorem LLA.mono (h : LLA σ0 k es pre row vs q qs s) (hs : ∀ b c, s b = some c → t b = some c) : LLA σ0 k es pre row vs q qs t :=
 ⟨h.at_.mono hs, h.rows.mono hs, h.new, h.ap⟩
theorem LLA.less (h : LLA σ0 k es pre row vs q qs s) (hs : ∀ b, σ0 b = none → s0 b = none) : LLA s0 k es pre row vs q qs s :=
 ⟨h.at_, h.rows.less hs, fun b hb => hs b (h.new b hb), h.ap⟩
/-- What it says, once it is given up. -/
def elsF (pre row : α → List V) (es : Nat) (vs : List α) : List V := vs.map fun a => elV (pre a) (.isl false es (row a))
theorem elsF_ok (hp : PreOK pre k) : ∀ x ∈ elsF pre row es vs, x.cells.length = k ∧ ∀ c ∈ x.cells, c.one = true := by
 intro x hx
 obtain ⟨a, _, rfl⟩ := List.mem_map.1 hx
 rw [elV_cells rfl]
 refine ⟨by simp [hp.len a], fun c hc => ?_⟩
 rcases List.mem_append.1 hc with h1 | h1
 ·exact (hp.one a c h1).1
 ·rw [List.mem_singleton.1 h1]; rfl
theorem flat_cell {xs : List V} {k : Nat} (h : ∀ x ∈ xs, x.cells.length = k) : ∀ {i j : Nat} {x c : V}, xs[i]? = some x → j < k → (flat xs)[i * k + j]? = x.cells[j]? := by
 induction xs with
 | nil => intro i j x c hx; simp at hx
 | cons y ys ih =>
  intro i j x c hx hj
  have hy := h y (by simp)
  simp only [flat, List.flatMap_cons] at ih ⊢
  cases i with
  | zero =>
   simp at hx; subst hx
   rw [Nat.zero_mul, Nat.zero_add, List.getElem?_append_left (by omega)]
  | succ i =>
   simp at hx
   rw [List.getElem?_append_right (by rw [hy, Nat.succ_mul]; omega), hy, show (i + 1) * k + j - k = i * k + j by rw [Nat.succ_mul]; omega]
   exact ih (fun z hz => h z (by simp [hz])) (c := c) hx hj
theorem LLA.frz (hp : PreOK pre k) (h : LLA σ0 k es pre row vs q qs s) (h1 : ∀ b, blk q = some b → t b = none) (h2 : ∀ m ∈ qs, ∀ b, blk m = some b → t b = none) : Frz s t q (.isl false k (elsF pre row es vs)) := by
 have hl := h.rows.len
 have hE := els_ok hp h.rows
 have hF := elsF_ok (row := row) (es := es) (vs := vs) hp
 have hel : (els pre vs qs).length = vs.length := els_len hl
 have hk := hp.pos
 rcases h.at_.2 with ⟨h0, es', rfl⟩ | ⟨b, cap, rfl, hb⟩
 ·have hx : vs = [] := List.eq_nil_of_length_eq_zero (by rw [← hel, h0]; rfl)
  subst hx
  exact .isl0 _ _ _ _ fun h => by cases h
 ·have hfe : (flat (els pre vs qs)).length = vs.length * k := by rw [flat_length fun x hx => (hE x hx).1, hel]
  refine .msl b k 0 _ cap _ (elsF pre row es vs) hb (h1 b rfl) (by rw [hfe, hel]; omega) (by rw [hel]; simp [elsF]) (fun x hx => (hF x hx).1) (by rw [flat_length fun x hx => (hF x hx).1, hel]; simp [elsF]) (fun i x hx => flat_ones (fun x hm => (hF x hm).2) x (List.mem_of_getElem? hx)) fun i x y hy hx => ?_
  rw [Nat.zero_add] at hy
  have hi : i < vs.length * k := by have := (List.getElem?_eq_some_iff.1 hy).1; omega
  have hdiv : i / k < vs.length := Nat.div_lt_of_lt_mul (by rw [Nat.mul_comm]; exact hi)
  have hmod : i % k < k := Nat.mod_lt _ hk
  have hsplit : i / k * k + i % k = i := by rw [Nat.mul_comm]; exact Nat.div_add_mod i k
  have ha : vs[i / k]? = some vs[i / k] := by simp [hdiv]
  have hq : qs[i / k]? = some (qs[i / k]'(by omega)) := by simp [show i / k < qs.length by omega]
  generalize vs[i / k] = a at *
  generalize qs[i / k]'(by omega) = q' at *
  have e1 := flat_cell (fun x hx => (hE x hx).1) (c := .undef) (els_at (pre := pre) ha hq) hmod
  have e2 := flat_cell (fun x hx => (hF x hx).1) (c := .undef) (show (elsF pre row es vs)[i / k]? = some (elV (pre a) (.isl false es (row a))) by simp [elsF, ha]) hmod
  rw [hsplit] at e1 e2
  have hcq := h.rows.cells (List.mem_of_getElem? hq)
  rw [elV_cells hcq.1] at e1
  rw [elV_cells rfl] at e2
  rw [e1] at hy
  rw [e2] at hx
  have hpl := hp.len a
  rcases Nat.lt_or_ge (i % k) (pre a).length with hlt | hge
  ·rw [List.getElem?_append_left hlt] at hy hx
   rw [hy] at hx
   obtain rfl := Option.some.inj hx
   exact .refl _
  ·rw [List.getElem?_append_right hge] at hy hx
   have e0 : i % k - (pre a).length = 0 := by omega
   rw [e0] at hy hx
   simp at hy hx
   subst hy hx
   exact (h.rows.at_ _ _ _ ha hq).frz fun b hb => h2 _ (List.mem_of_getElem? hq) b hb
theorem LLA.push (hp : PreOK pre k) (h : LLA σ0 k es pre row vs q qs s) {a : α} {m q' : V} (hle : ∀ b c, σ0 b = some c → s b = some c) (hm : At s es (row a) m) (hn : ∀ b, blk m = some b → σ0 b = none) (hq : Apt m q) (ha : ∀ m' ∈ qs, Apt m' m)
  (h1 : At t k (els pre vs qs ++ [elV (pre a) m]) q') (h2 : ∀ b, blk q' = some b → blk q = some b ∨ s b = none) (h3 : ∀ d, blk q ≠ some d → blk q' ≠ some d → t d = s d) : LLA σ0 k es pre row (vs ++ [a]) q' (qs ++ [m]) t := by
 have off : ∀ m', (∃ a, At s es (row a) m') → Apt m' q → Apt m' q' := fun m' ⟨a', ha'⟩ hap b hb e => by
  rcases h2 b e with h | h
  ·exact hap b hb h
  ·rw [ha'.has hb] at h; cases h
 have hmq := off m ⟨a, hm⟩ hq
 have hrq := fun m' hm' => off m' (h.rows.has hm') (h.ap m' hm')
 have keep : ∀ m', Apt m' q → Apt m' q' → ∀ b, blk m' = some b → t b = s b := fun m' e1 e2 b hb => h3 b (e1 b hb) (e2 b hb)
 refine ⟨by rw [els_snoc h.rows.len]; exact h1, (h.rows.to fun m' hm' => keep m' (h.ap m' hm') (hrq m' hm')).snoc (hm.to (keep m hq hmq)) hn ha, fun b hb => ?_, fun m' hm' => ?_⟩
 ·rcases h2 b hb with h' | h'
  ·exact h.new b h'
  ·exact none_of hle b h'
 ·rcases List.mem_append.1 hm' with h' | h'
  ·exact hrq m' h'
  ·rw [List.mem_singleton.1 h']; exact hmq
theorem LLA.blk_has (h : LLA σ0 k es pre row vs q qs s) {b : Nat} (hb : blk q = some b ∨ ∃ m ∈ qs, blk m = some b) : s b ≠ none := by
 rcases hb with hb | ⟨m, hm, hb⟩
 ·rw [h.at_.has hb]; simp
 ·obtain ⟨a, ha⟩ := h.rows.has hm
  rw [ha.has hb]; simp
end
section
variable {P : Program} {f : FuncId} {n : Nat} {Q : V → St → Prop} {k : List It} {T : Ts}
/-- What an append to a list in place leaves. -/
structure AppAt (σ : St) (es : Nat) (xs : List V) (q q' : V) (s' : St) : Prop where
 at_ : At s' es xs q'
 blk_ : ∀ b, blk q' = some b → blk q = some b ∨ σ b = none
 keep : ∀ d, blk q ≠ some d → blk q' ≠ some d → s' d = σ d
theorem InsOK.appAt {es by_ : Nat} {s x : Opd} {xs ys : List V} {m : Nat} (h : At σ es xs (ev Γ T s)) (hx : srcV σ es (ev Γ T x) = some (flat ys, m)) (hm : m = ys.length) (hy : ∀ y ∈ ys, y.cells.length = es ∧ ∀ c ∈ y.cells, c.one = true) (hfit : (xs.length + ys.length) * by_ ≤ 140737488355328) :
  InsOK P Γ (.app es by_ s x) T σ fun q' s' => AppAt σ es (xs ++ ys) (ev Γ T s) q' s' := by
 subst hm
 have hxy : ∀ y ∈ xs ++ ys, y.cells.length = es ∧ ∀ c ∈ y.cells, c.one = true := fun y h' => (List.mem_append.1 h').elim (h.1 y) (hy y)
 rcases h.2 with ⟨rfl, es', he⟩ | ⟨b0, cap0, he, hb0⟩
 ·refine InsOK.app (old := []) (sLen := 0) (by rw [he]; exact .isl [] es' (.inl rfl)) hx (by simpa using hfit) (fun b cap hb hc => ?_) (fun hm ex es2 xs2 he2 => ?_)
  ·rw [he] at hb ⊢
   refine ⟨⟨hxy, .inr ⟨b, cap, by simp, by simp [baseDel, upd_same]⟩⟩, fun b' hb' => ?_, fun d h1 h2 => ?_⟩
   ·simp only [blk, Option.some.injEq] at hb'; subst hb'; exact .inr hb
   ·exact upd_ne _ _ (fun e => h2 (by rw [e]; rfl))
  ·rw [he] at he2
   injection he2 with e1 e2 e3
   subst e1 e2 e3
   have : ys = [] := List.eq_nil_of_length_eq_zero hm
   subst this
   exact ⟨⟨fun y hy => (by cases hy), .inl ⟨rfl, _, rfl⟩⟩, fun b hb => (by cases hb), fun _ _ _ => rfl⟩
 ·have hfl : (flat xs).length = xs.length * es := flat_length fun x hx' => (h.1 x hx').1
  refine InsOK.app (old := flat xs) (sLen := xs.length) (by
   rw [he]
   have := Base.msl (σ := σ) (es := es) b0 xs.length cap0 (flat xs) hb0 (by rw [hfl]; exact Nat.le_refl _)
   rwa [List.take_of_length_le (by rw [hfl]; exact Nat.le_refl _)] at this) hx hfit (fun b cap hb hc => ?_) (fun hm ex es2 xs2 he2 => by rw [he] at he2; cases he2)
  rw [he] at hb ⊢
  simp only [baseDel] at hb ⊢
  refine ⟨⟨hxy, .inr ⟨b, cap, by simp, by rw [upd_same, flat_append]⟩⟩, fun b' hb' => ?_, fun d h1 h2 => ?_⟩
  ·simp only [blk, Option.some.injEq] at hb'; subst hb'
   by_cases e : b = b0
   ·subst e; exact .inl rfl
   ·rw [del_ne _ e] at hb; exact .inr hb
  ·rw [upd_ne _ _ (fun e => h2 (by rw [e]; rfl)), del_ne _ (fun e => h1 (by rw [e]; rfl))]
theorem SRun.appAt {d : Option Nat} {l : List GI} {es by_ : Nat} {s x : Opd} {xs ys : List V} {m : Nat} (h : At σ es xs (ev Γ T s)) (hx : srcV σ es (ev Γ T x) = some (flat ys, m)) (hm : m = ys.length) (hy : ∀ y ∈ ys, y.cells.length = es ∧ ∀ c ∈ y.cells, c.one = true) (hfit : (xs.length + ys.length) * by_ ≤ 140737488355328)
  (hk : ∀ q' s', AppAt σ es (xs ++ ys) (ev Γ T s) q' s' → W P Γ f n Q (.ops l :: k) (putT T d q') s') : SRun P Γ f n (.ops (⟨d, none, .app es by_ s x⟩ :: l) :: k) T σ Q :=
 SRun.op rfl (InsOK.appAt h hx hm hy hfit) fun q' s' h' => (hk q' s' h').sound
theorem WrF.appAt {d : Option Nat} {es by_ : Nat} {s x : Opd} {xs ys : List V} {m : Nat} (h : At σ es xs (ev Γ T s)) (hx : srcV σ es (ev Γ T x) = some (flat ys, m)) (hm : m = ys.length) (hy : ∀ y ∈ ys, y.cells.length = es ∧ ∀ c ∈ y.cells, c.one = true) (hfit : (xs.length + ys.length) * by_ ≤ 140737488355328) :
  WrF P Γ σ T ⟨d, none, .app es by_ s x⟩ fun q' s' => AppAt σ es (xs ++ ys) (ev Γ T s) q' s' :=
 WrF.of fun T' he => by
  have e1 : ev Γ T' s = ev Γ T s := he s (by simp [I.opds])
  have := InsOK.appAt (P := P) (Γ := Γ) (T := T') (s := s) (x := x) (by_ := by_) (by rw [e1]; exact h) (by rw [he x (by simp [I.opds])]; exact hx) hm hy hfit
  rwa [e1] at this
end
section
variable {P : Program} {f : FuncId} {n : Nat} {Q : V → St → Prop} {k : List It} {T : Ts} {g : GI} {l : List GI}
theorem stepW_len_at {s : St} {es : Nat} {xs : List V} {q : V} (h : At s es xs q) : stepW P Γ f n Q (.len (.c q)) g l k T σ = W P Γ f n Q (.ops l :: k) (putT T g.d (.int .i64 xs.length)) σ := by
 rcases h.2 with ⟨rfl, es', rfl⟩ | ⟨b, cap, rfl, _⟩
 ·rw [stepW_len_isl]
 ·rw [stepW_len_msl]
end
end
section
attribute [local irreducible] SRun DS DRun
variable {Γ : St} {σ σ0 : St}
theorem AppAt.get {es : Nat} {xs : List V} {q q' : V} {s' : St} (h : AppAt σ es xs q q' s') {d : Nat} {c : List V} (hd : σ d = some c) (hq : blk q ≠ some d) : s' d = some c := by
 rw [h.keep d hq (fun e => (h.blk_ d e).elim hq (fun e2 => by rw [hd] at e2; cases e2))]; exact hd
theorem AppAt.dom {es : Nat} {xs : List V} {q q' : V} {s' : St} (h : AppAt σ es xs q q' s') {B0 : St} (hB : ∀ b, σ b = none → B0 b = none) (hq : ∀ b, blk q = some b → B0 b = none) : ∀ b, s' b = none → B0 b = none := fun b hb => by
 by_cases e : blk q = some b
 ·exact hq b e
 ·by_cases e2 : blk q' = some b
  ·exact (h.blk_ b e2).elim (hq b) (hB b)
  ·rw [h.keep b e e2] at hb; exact hB b hb
theorem AppAt.new {es : Nat} {xs : List V} {q q' : V} {s' : St} (h : AppAt σ es xs q q' s') {B0 : St} (hB : ∀ b, σ b = none → B0 b = none) (hq : ∀ b, blk q = some b → B0 b = none) : ∀ b, blk q' = some b → B0 b = none := fun b hb => (h.blk_ b hb).elim (hq b) (hB b)
theorem WrF.storeT {P : Program} {T : Ts} {d : Option Nat} {n : Nat} {ad y : Opd} {b off : Nat} {cs : List V} (ha : ev Γ T ad = .ptr b off) (hb : σ b = some cs) (hn : (ev Γ T y).cells.length = n) (h1 : ∀ c ∈ (ev Γ T y).cells, c.one = true) (h4 : off + n ≤ cs.length) :
  WrF P Γ σ T ⟨d, none, .store n ad y⟩ fun r s => r = .undef ∧ s = upd σ b (sets cs off (ev Γ T y).cells) :=
 WrF.of fun T' hT => by
  have e1 := hT ad (by simp [I.opds])
  have e2 := hT y (by simp [I.opds])
  exact InsOK.store (by rw [e1]; exact ha) hb (by rw [e2]; exact hn) (by rw [e2]; exact h1) h4 ⟨rfl, by rw [e2]⟩
end
section
attribute [local irreducible] SRun DS DRun
variable {Γ : St} {σ σ0 : St}
def preS : Bool × List Int → List V := fun s => [.bool s.1]
def rowS : Bool × List Int → List V := fun s => ints s.2
theorem preS_ok : PreOK preS 2 := ⟨by omega, fun _ => rfl, fun a c hc => by simp only [preS, List.mem_singleton] at hc; subst hc; exact ⟨rfl, .bool _⟩⟩

end
section
attribute [local irreducible] SRun DS DRun
variable {Γ : St} {σ σ0 : St}
theorem dec_same {α : Type} [DecidableEq α] (a : α) : decide (a = a) = true := decide_eq_true rfl
theorem eqIntS_ok {ex ex2 : Bool} {xs : List Int} (h1 : xs.length ≤ 1048576) : Ret Try.prog Γ 69 [.isl ex 1 (ints xs), .isl ex2 1 (ints xs)] σ (.bool true) σ := by
 refine ret_of c69_ok rfl ?_
 simp (disch := omega) only [c69, dec_same, go_sem]
 refine W_loopC (α := Nat) (fun i => i ≤ xs.length) (fun i => [(0, .isl ex 1 (ints xs)), (1, .isl ex2 1 (ints xs)), (5, .int .i64 (i : Nat))]) (fun i => σ) (fun i => xs.length - i) 0 (by omega) (by simp (disch := omega) only [subT, Int.natCast_add, Int.cast_ofNat_Int, go_sem] <;> (repeat' apply And.intro) <;> first | rfl | (congr 1; omega) | assumption) rfl ?_
 intro i hi ih
 simp (disch := omega) only [go_sem]
 first | refine iteW_dec (fun hq => ?_) (fun hq => ?_) | refine iteW_of (fun hq => ?_) (fun hq => ?_)
 ·simp (disch := omega) only [go_sem]
  refine W_drawW ?_
  simp (disch := omega) only [dec_same, go_sem]
  exact ih (i + 1) _ _ (by omega) (by omega) (by simp (disch := omega) only [subT, Int.natCast_add, Int.cast_ofNat_Int, go_sem] <;> (repeat' apply And.intro) <;> first | rfl | (congr 1; omega) | assumption) rfl
 ·simp (disch := omega) only [go_sem]
  exact W_retR c69_ok rfl ⟨rfl, rfl⟩
def upFrom (k : Int) (n : Nat) : List Int := (List.range n).map fun i : Nat => k + i
theorem upFrom_len (k : Int) (n : Nat) : (upFrom k n).length = n := by simp [upFrom]
theorem upFrom_at {k : Int} {n i : Nat} (h : i < n) : (upFrom k n).getD i 0 = k + i := by simp [upFrom, List.getD, h]
def partI (k : Int) (xs : List Int) (i : Nat) : List Int := upFrom k i ++ xs.drop i
theorem partI_len {k : Int} {xs : List Int} {i : Nat} (h : i ≤ xs.length) : (partI k xs i).length = xs.length := by simp [partI, upFrom_len]; omega
theorem partI_zero (k : Int) (xs : List Int) : partI k xs 0 = xs := by simp [partI, upFrom]
theorem partI_all (k : Int) (xs : List Int) : partI k xs xs.length = upFrom k xs.length := by simp [partI]
theorem partI_set {k : Int} {xs : List Int} {i : Nat} (h : i < xs.length) : (partI k xs i).set i (k + i) = partI k xs (i + 1) := by
 unfold partI
 rw [List.set_append_right _ _ (by rw [upFrom_len]; exact Nat.le_refl _), upFrom_len, Nat.sub_self, List.drop_eq_getElem_cons h, List.set_cons_zero]
 simp [upFrom, List.range_succ]
theorem ints_setI (xs : List Int) (i : Nat) (x : Int) : (ints xs).set i (.int .i64 x) = ints (xs.set i x) := by simp [ints, List.map_set]
theorem markIntS_at {xs : List Int} {q : V} {k : Int} (h : At σ 1 (ints xs) q) (hl : xs.length ≤ 1048576) (hk : 0 ≤ k ∧ k ≤ 1000000000) : ACalls Try.prog Γ 42 [q, .int .i64 k] σ fun r s => r = .int .i64 (k + xs.length) ∧ s = wrt σ q (ints (upFrom k xs.length)) := by
 rcases h.2 with ⟨h0, es', rfl⟩ | ⟨b, cap, rfl, hb⟩
 ·have hx : xs = [] := by simpa [ints] using h0
  subst hx
  refine acalls_W c42_ok rfl ?_
  simp (disch := omega) only [c42, go_sem]
  refine W_loopC (α := Unit) (fun _ => True) (fun _ => [(0, .isl true es' []), (1, .int .i64 k), (5, .int .i64 0)]) (fun _ => σ) (fun _ => 0) () trivial (by simp (disch := omega) only [subT, Int.natCast_add, Int.cast_ofNat_Int, go_sem] <;> (repeat' apply And.intro) <;> first | rfl | (congr 1; omega) | assumption) rfl ?_
  intro _ _ _
  simp (disch := omega) only [List.length_nil, go_sem]
  exact W_retR c42_ok rfl ⟨by simp [look], rfl⟩
 ·rw [ints_len, wrt_msl]
  rw [flat_ints] at hb
  refine acalls_W c42_ok rfl ?_
  simp (disch := omega) only [c42, go_sem]
  refine W_loopC (α := Nat) (fun i => i ≤ xs.length) (fun i => [(0, .msl b 1 0 xs.length cap), (1, .int .i64 (k + i)), (5, .int .i64 (i : Nat))]) (fun i => upd σ b (ints (partI k xs i))) (fun i => xs.length - i) 0 (by omega) (by simp (disch := omega) only [subT, Int.natCast_add, Int.cast_ofNat_Int, Int.natCast_zero, Int.add_zero, go_sem] <;> (repeat' apply And.intro) <;> first | rfl | (congr 1; omega) | assumption) (by rw [partI_zero]; exact upd_self _ hb) ?_
  intro i hi ih
  have g := upd_same σ b (ints (partI k xs i))
  have hpl := partI_len (k := k) hi
  simp (disch := omega) only [go_sem]
  first | refine iteW_dec (fun h1 => ?_) (fun h1 => ?_) | refine iteW_of (fun h1 => ?_) (fun h1 => ?_)
  ·simp (disch := omega) only [g, ints_len, hpl, go_sem]
   rw [ints_setI, partI_set (by omega)]
   exact ih (i + 1) _ _ (by omega) (by omega) (by simp (disch := omega) only [subT, Int.natCast_add, Int.cast_ofNat_Int, go_sem] <;> (repeat' apply And.intro) <;> first | rfl | (congr 1; omega) | assumption) rfl
  ·have hil : i = xs.length := by omega
   subst hil
   rw [partI_all]
   simp (disch := omega) only [go_sem]
   exact W_retR c42_ok rfl ⟨rfl, rfl⟩
theorem heldIntS_ok {ex : Bool} {n : Nat} {k : Int} (hl : n ≤ 1048576) (hk : 0 ≤ k ∧ k ≤ 1000000000) : Ret Try.prog Γ 43 [.isl ex 1 (ints (upFrom k n)), .int .i64 k] σ (.int .i64 (k + n)) σ := by
 have hul := upFrom_len k n
 refine ret_of c43_ok rfl ?_
 simp (disch := omega) only [c43, go_sem]
 refine W_loopC (α := Nat) (fun i => i ≤ n) (fun i => [(0, .isl ex 1 (ints (upFrom k n))), (1, .int .i64 (k + i)), (5, .int .i64 (i : Nat))]) (fun _ => σ) (fun i => n - i) 0 (by omega) (by simp (disch := omega) only [subT, Int.natCast_add, Int.cast_ofNat_Int, Int.natCast_zero, Int.add_zero, go_sem] <;> (repeat' apply And.intro) <;> first | rfl | (congr 1; omega) | assumption) rfl ?_
 intro i hi ih
 simp (disch := omega) only [hul, go_sem]
 first | refine iteW_dec (fun h1 => ?_) (fun h1 => ?_) | refine iteW_of (fun h1 => ?_) (fun h1 => ?_)
 ·have hat := upFrom_at (k := k) (n := n) (i := i) (by omega)
  have hne : (decide ¬ (k + (i : Int)) = k + i) = false := by simp
  simp (disch := omega) only [hul, hat, hne, go_sem]
  exact ih (i + 1) _ _ (by omega) (by omega) (by simp (disch := omega) only [subT, Int.natCast_add, Int.cast_ofNat_Int, go_sem] <;> (repeat' apply And.intro) <;> first | rfl | (congr 1; omega) | assumption) rfl
 ·have hil : i = n := by omega
  subst hil
  simp (disch := omega) only [go_sem]
  exact W_retR c43_ok rfl ⟨rfl, rfl⟩
def stV (st : List (Bool × List Int)) : List V := elsF preS rowS 1 st
theorem stV_len (st : List (Bool × List Int)) : (stV st).length = st.length := by simp [stV, elsF]
theorem stV_at {st : List (Bool × List Int)} {i : Nat} (h : i < st.length) : (stV st).getD i .undef = .agg [.bool (st.getD i (false, [])).1, .isl false 1 (ints (st.getD i (false, [])).2)] := by
 simp [stV, elsF, List.getD, h, elV, preS, rowS]
section
variable {P : Program} {f : FuncId} {n : Nat} {Q : V → St → Prop} {k : List It} {T : Ts} {g : GI} {l : List GI}
theorem stepW_iaddr_st {ex : Bool} {st : List (Bool × List Int)} {kk : IntKind} {m : Int} (h0 : 0 ≤ m) (h1 : m < st.length) : stepW P Γ f n Q (.iaddr 2 (.c (.isl ex 2 (stV st))) (.c (.int kk m))) g l k T σ = W P Γ f n Q (.ops l :: k) (putT T g.d (.iptr [.bool (st.getD m.toNat (false, [])).1, .isl false 1 (ints (st.getD m.toNat (false, [])).2)])) σ := by
 have hm : m.toNat < st.length := by omega
 rw [stepW_iaddr_at h0 (by rw [stV_len]; exact h1), stV_at hm]; rfl
theorem stepK_iaddr_st {K : V → St → Prop} {ex : Bool} {st : List (Bool × List Int)} {kk : IntKind} {m : Int} (h0 : 0 ≤ m) (h1 : m < st.length) : stepK (.iaddr 2 (.c (.isl ex 2 (stV st))) (.c (.int kk m))) σ K = K (.iptr [.bool (st.getD m.toNat (false, [])).1, .isl false 1 (ints (st.getD m.toNat (false, [])).2)]) σ := by
 have hm : m.toNat < st.length := by omega
 have e : (stV st)[m.toNat]? = some (.agg [.bool (st.getD m.toNat (false, [])).1, .isl false 1 (ints (st.getD m.toNat (false, [])).2)]) := by
  rw [← stV_at hm]; exact getD_some _ (by rw [stV_len]; omega)
 simp only [stepK_iaddr_isl, h0, e, if_true]; rfl
end
attribute [go_sem] stepW_iaddr_st stepK_iaddr_st stV_len
theorem eqStep_ok {d : Bool} {c : List Int} (h1 : c.length ≤ 1048576) : Ret Try.prog Γ 41 [.agg [.bool d, .isl false 1 (ints c)], .agg [.bool d, .isl false 1 (ints c)]] σ (.bool true) σ := by
 have hdd : (!(d == d)) = false := by simp
 refine ret_of c41_ok rfl ?_
 simp (disch := omega) only [c41, go_sem]
 refine SRun.boxR (by simp [ev, look, V.cells, V.one]) ?_
 intro b2 hb2
 simp (disch := omega) only [go_sem]
 refine SRun.boxR (by simp [ev, look, V.cells, V.one]) ?_
 intro b3 hb3
 have g2 : ∀ z, upd (upd σ b2 [.bool d, .isl false 1 (ints c)]) b3 z b2 = some [.bool d, .isl false 1 (ints c)] := fun z => le_upd hb3 _ _ (upd_same _ _ _)
 have hσ : ∀ z x y, σ x = some y → upd (upd σ b2 [.bool d, .isl false 1 (ints c)]) b3 z x = some y := fun z x y h => le_upd hb3 _ _ (le_upd hb2 _ _ h)
 generalize upd σ b2 [.bool d, .isl false 1 (ints c)] = s2 at *
 simp (disch := omega) only [g2, hdd, go_sem]
 refine SRun.callR (eqIntS_ok h1) ⟨[], rfl, rfl⟩ rfl ?_
 simp (disch := omega) only [go_sem]
 exact W_retC c41_ok rfl (Conv.drop _ (hσ _)) ⟨rfl, rfl⟩
theorem eqStepS_ok {ex ex2 : Bool} {st : List (Bool × List Int)} (h1 : st.length ≤ 1048576) (h2 : ∀ s ∈ st, s.2.length ≤ 1048576) : Ret Try.prog Γ 22 [.isl ex 2 (stV st), .isl ex2 2 (stV st)] σ (.bool true) σ := by
 have hlen2 : ∀ x y : V, [x, y].take 2 = [x, y] := fun _ _ => rfl
 refine ret_of c22_ok rfl ?_
 simp (disch := omega) only [c22, dec_same, go_sem]
 refine W_loopC (α := Nat) (fun i => i ≤ st.length) (fun i => [(0, .isl ex 2 (stV st)), (1, .isl ex2 2 (stV st)), (5, .int .i64 (i : Nat))]) (fun i => σ) (fun i => st.length - i) 0 (by omega) (by simp (disch := omega) only [subT, Int.natCast_add, Int.cast_ofNat_Int, go_sem] <;> (repeat' apply And.intro) <;> first | rfl | (congr 1; omega) | assumption) rfl ?_
 intro i hi ih
 simp (disch := omega) only [go_sem]
 first | refine iteW_dec (fun hq => ?_) (fun hq => ?_) | refine iteW_of (fun hq => ?_) (fun hq => ?_)
 ·have hr := h2 _ (getD_mem (false, []) (by omega : i < st.length))
  simp (disch := omega) only [go_sem]
  refine W_drawW ?_
  simp (disch := omega) only [hlen2, go_sem]
  refine DRun.callQ (eqStep_ok hr) ⟨[], rfl, rfl⟩ ?_
  rintro r s ⟨rfl, hs⟩
  obtain rfl := hs.symm
  simp (disch := omega) only [go_sem]
  exact ih (i + 1) _ _ (by omega) (by omega) (by simp (disch := omega) only [subT, Int.natCast_add, Int.cast_ofNat_Int, go_sem] <;> (repeat' apply And.intro) <;> first | rfl | (congr 1; omega) | assumption) rfl
 ·simp (disch := omega) only [go_sem]
  exact W_retR c22_ok rfl ⟨rfl, rfl⟩
def endS : Int → List Nat → Int
 | k, [] => k
 | k, n :: r => endS (k + 1 + n) r
def markS : Int → List Nat → List (Bool × List Int)
 | _, [] => []
 | k, n :: r => (decide (k.tmod 3 = 0), upFrom (k + 1) n) :: markS (k + 1 + n) r
theorem markS_len : ∀ (ls : List Nat) (k : Int), (markS k ls).length = ls.length := by
 intro ls
 induction ls with
 | nil => intro k; rfl
 | cons n r ih => intro k; simp [markS, ih]
theorem markS_at : ∀ (ls : List Nat) (k : Int) (i : Nat), i < ls.length → (markS k ls).getD i (false, []) = (decide ((endS k (ls.take i)).tmod 3 = 0), upFrom (endS k (ls.take i) + 1) (ls.getD i 0)) := by
 intro ls
 induction ls with
 | nil => intro k i h; simp at h
 | cons n r ih =>
  intro k i h
  cases i with
  | zero => rfl
  | succ i =>
   have := ih (k + 1 + n) i (by simpa using h)
   simpa [markS, endS] using this
theorem endS_succ : ∀ (ls : List Nat) (k : Int) (i : Nat), i < ls.length → endS k (ls.take (i + 1)) = endS k (ls.take i) + 1 + (ls.getD i 0 : Nat) := by
 intro ls
 induction ls with
 | nil => intro k i h; simp at h
 | cons n r ih =>
  intro k i h
  cases i with
  | zero => simp [endS]
  | succ i => simpa [endS] using ih (k + 1 + n) i (by simpa using h)
theorem endS_ge : ∀ (ls : List Nat) (k : Int), k ≤ endS k ls := by
 intro ls
 induction ls with
 | nil => intro k; simp [endS]
 | cons n r ih => intro k; have := ih (k + 1 + n); simp only [endS]; omega
theorem endS_app : ∀ (a b : List Nat) (k : Int), endS k (a ++ b) = endS (endS k a) b := by
 intro a
 induction a with
 | nil => intro b k; rfl
 | cons n r ih => intro b k; simp only [List.cons_append, endS]; exact ih b _
theorem endS_take {ls : List Nat} {k : Int} (i : Nat) : k ≤ endS k (ls.take i) ∧ endS k (ls.take i) ≤ endS k ls := by
 refine ⟨endS_ge _ _, ?_⟩
 have := endS_app (ls.take i) (ls.drop i) k
 rw [List.take_append_drop] at this
 rw [this]; exact endS_ge _ _
def mixS (k : Int) (st : List (Bool × List Int)) (i : Nat) : List (Bool × List Int) := (markS k (st.map fun s => s.2.length)).take i ++ st.drop i
theorem heldStepS_ok {ex : Bool} {ls : List Nat} {k : Int} (hl : ls.length ≤ 1048576) (hn : ∀ n ∈ ls, n ≤ 1048576) (hk : 0 ≤ k) (he : endS k ls ≤ 1000000000) : Ret Try.prog Γ 28 [.isl ex 2 (stV (markS k ls)), .int .i64 k] σ (.int .i64 (endS k ls)) σ := by
 have hml := markS_len ls k
 refine ret_of c28_ok rfl ?_
 simp (disch := omega) only [c28, go_sem]
 refine W_loopC (α := Nat) (fun i => i ≤ ls.length) (fun i => [(0, .isl ex 2 (stV (markS k ls))), (1, .int .i64 (endS k (ls.take i))), (5, .int .i64 (i : Nat))]) (fun _ => σ) (fun i => ls.length - i) 0 (by omega) (by simp (disch := omega) only [subT, Int.natCast_add, Int.cast_ofNat_Int, List.take_zero, endS, go_sem] <;> (repeat' apply And.intro) <;> first | rfl | (congr 1; omega) | assumption) rfl ?_
 intro i hi ih
 simp (disch := omega) only [hml, go_sem]
 first | refine iteW_dec (fun h1 => ?_) (fun h1 => ?_) | refine iteW_of (fun h1 => ?_) (fun h1 => ?_)
 ·have hi' : i < ls.length := by omega
  have hat := markS_at ls k i hi'
  have hsu := endS_succ ls k i hi'
  obtain ⟨t1, t2⟩ := endS_take (ls := ls) (k := k) i
  obtain ⟨u1, u2⟩ := endS_take (ls := ls) (k := k) (i + 1)
  have hni := hn _ (getD_mem 0 hi')
  generalize endS k (ls.take i) = p at *
  have hbb : ∀ b : Bool, (!(b == b)) = false := fun b => by simp
  have hln : (upFrom (p + 1) (ls.getD i 0)).length = ls.getD i 0 := upFrom_len _ _
  simp (disch := omega) only [hml, hat, hbb, go_sem]
  refine SRun.callR (heldIntS_ok (n := ls.getD i 0) (k := p + 1) hni (by omega)) ⟨[], rfl, rfl⟩ rfl ?_
  have hd : decide (p + 1 + ((ls.getD i 0 : Nat) : Int) < 0) = false := decide_eq_false (by omega)
  simp (disch := omega) only [hd, go_sem]
  refine ih (i + 1) _ _ (by omega) (by omega) ?_ rfl
  rw [hsu]
  exact (by simp (disch := omega) only [subT, Int.natCast_add, Int.cast_ofNat_Int, go_sem] <;> (repeat' apply And.intro) <;> first | rfl | (congr 1; omega) | assumption)
 ·have hil : i = ls.length := by omega
  subst hil
  rw [List.take_length] at *
  simp (disch := omega) only [go_sem]
  exact W_retR c28_ok rfl ⟨by simp [look], rfl⟩
end
section
attribute [local irreducible] SRun DS DRun
variable {Γ : St} {σ σ0 : St}
theorem LLA.set {α : Type} {pre row : α → List V} {k es : Nat} {vs : List α} {q q1 : V} {qs : List V} {s t : St} (h : LLA σ0 k es pre row vs q qs s) {i : Nat} {a : α} (hi : i < vs.length) (hq : qs[i]? = some q1)
  (h1 : At t k (els pre (vs.set i a) qs) q) (h2 : At t es (row a) q1) (h3 : ∀ (j : Nat) (m : V), j ≠ i → qs[j]? = some m → ∀ b, blk m = some b → t b = s b) : LLA σ0 k es pre row (vs.set i a) q qs t := by
 refine ⟨h1, ⟨by rw [List.length_set]; exact h.rows.len, fun j x m hx hm => ?_, h.rows.new, h.rows.ap⟩, h.new, h.ap⟩
 by_cases e : j = i
 ·subst e
  rw [hq] at hm; obtain rfl := Option.some.inj hm
  rw [List.getElem?_set_self hi] at hx; obtain rfl := Option.some.inj hx
  exact h2
 ·rw [List.getElem?_set_ne (Ne.symm e)] at hx
  exact (h.rows.at_ j x m hx hm).to (h3 j m e hm)
theorem LLA.conv {α : Type} {pre row : α → List V} {k es : Nat} {vs : List α} {q : V} {qs : List V} {s : St} (hp : PreOK pre k) (h : LLA σ k es pre row vs q qs s) (hle : ∀ b c, σ b = some c → s b = some c) : Conv s q σ (.isl false k (elsF pre row es vs)) :=
 ⟨hle, h.frz hp h.new h.rows.new⟩
theorem LLA.lend {α : Type} {pre row : α → List V} {k es : Nat} {vs : List α} {q : V} {qs : List V} {s : St} (hp : PreOK pre k) (h : LLA σ0 k es pre row vs q qs s) : Frz s emp q (.isl false k (elsF pre row es vs)) := h.frz hp (fun _ _ => rfl) fun _ _ _ _ => rfl
theorem els_set {α : Type} {pre : α → List V} : ∀ {vs : List α} {qs : List V} {i : Nat} {a : α} {q1 : V}, qs[i]? = some q1 → els pre (vs.set i a) qs = (els pre vs qs).set i (elV (pre a) q1) := by
 intro vs
 induction vs with
 | nil => intro qs i a q1 h; simp [els]
 | cons x r ih =>
  intro qs i a q1 h
  cases qs with
  | nil => simp at h
  | cons y ys =>
   cases i with
   | zero => simp at h; subst h; simp [els]
   | succ i =>
    have := ih (qs := ys) (i := i) (a := a) (q1 := q1) (by simpa using h)
    simp only [els, List.set_cons_succ, List.zipWith_cons_cons] at this ⊢
    rw [this]
theorem els_mark {st : List (Bool × List Int)} {qs : List V} {sb : St} (h : RwAt σ0 sb 1 rowS st qs) {i : Nat} {q1 : V} (hi : i < st.length) (hq : qs[i]? = some q1) (a : Bool × List Int) : (flat (els preS st qs)).set (i * 2) (.bool a.1) = flat (els preS (st.set i a) qs) := by
 have hE := fun x hx => (els_ok preS_ok h x hx).1
 have hl : i < (els preS st qs).length := by rw [els_len h.len]; exact hi
 have hc := (h.cells (List.mem_of_getElem? hq)).1
 have ha : st[i]? = some st[i] := by simp [hi]
 have hat : (els preS st qs)[i]? = some (elV (preS st[i]) q1) := els_at ha hq
 have hself : (els preS st qs).set i (elV (preS st[i]) q1) = els preS st qs := by
  apply List.ext_getElem?
  intro j
  by_cases e : j = i
  ·subst e; rw [List.getElem?_set_self hl, hat]
  ·rw [List.getElem?_set_ne (Ne.symm e)]
 rw [els_set hq, flat_set hE i _ hl]
 have h0 := flat_set hE i (elV (preS st[i]) q1) hl
 rw [hself, elV_cells hc] at h0
 rw [elV_cells hc]
 have hlt : ((flat (els preS st qs)).take (i * 2)).length = i * 2 := by
  rw [List.length_take, flat_length hE, els_len h.len]; omega
 conv => lhs; rw [h0]
 rw [List.append_assoc, List.append_assoc, List.set_append_right _ _ (by rw [hlt]; exact Nat.le_refl _), hlt, Nat.sub_self, List.append_assoc]
 rfl
theorem els_row {st : List (Bool × List Int)} {qs : List V} {sb : St} (h : RwAt σ0 sb 1 rowS st qs) {i : Nat} {q1 : V} (hi : i < st.length) (hq : qs[i]? = some q1) : (flat (els preS st qs))[i * 2 + 1]? = some q1 := by
 have hE := fun x hx => (els_ok preS_ok h x hx).1
 have hc := (h.cells (List.mem_of_getElem? hq)).1
 rw [flat_cell hE (c := .undef) (els_at (pre := preS) (show st[i]? = some st[i] by simp [hi]) hq) (by omega), elV_cells hc]
 rfl
theorem mixS_len {k : Int} {st : List (Bool × List Int)} {i : Nat} (h : i ≤ st.length) : (mixS k st i).length = st.length := by
 simp [mixS, markS_len]; omega
theorem mixS_zero (k : Int) (st : List (Bool × List Int)) : mixS k st 0 = st := by simp [mixS]
theorem mixS_all (k : Int) (st : List (Bool × List Int)) : mixS k st st.length = markS k (st.map fun s => s.2.length) := by
 simp [mixS, List.take_of_length_le, markS_len]
theorem mixS_at {k : Int} {st : List (Bool × List Int)} {i : Nat} (h : i < st.length) : (mixS k st i)[i]? = some (st.getD i (false, [])) := by
 unfold mixS
 rw [List.getElem?_append_right (by simp [markS_len]; omega)]
 simp [markS_len, List.getD, h, Nat.min_eq_left (Nat.le_of_lt h)]
theorem mixS_set {k : Int} {st : List (Bool × List Int)} {i : Nat} (h : i < st.length) : (mixS k st i).set i ((markS k (st.map fun s => s.2.length)).getD i (false, [])) = mixS k st (i + 1) := by
 have hm : (markS k (st.map fun s => s.2.length)).length = st.length := by simp [markS_len]
 unfold mixS
 have hlt : ((markS k (st.map fun s => s.2.length)).take i).length = i := by rw [List.length_take, hm]; omega
 rw [List.set_append_right _ _ (by omega), hlt, Nat.sub_self, drop_cons (false, []) h, List.set_cons_zero, take_succ (false, []) (by omega)]
 simp
set_option maxHeartbeats 1000000 in
theorem markStepS_at {st : List (Bool × List Int)} {q : V} {qs : List V} {k : Int} (hA : LLA σ0 2 1 preS rowS st q qs σ) (hl : st.length ≤ 1000) (hn : ∀ x ∈ st, x.2.length ≤ 1000) (hk : 0 ≤ k) (he : endS k (st.map fun s => s.2.length) ≤ 100000000) :
  ACalls Try.prog Γ 26 [q, .int .i64 k] σ fun r s => r = .int .i64 (endS k (st.map fun s => s.2.length)) ∧ LLA σ0 2 1 preS rowS (markS k (st.map fun s => s.2.length)) q qs s ∧ ∀ b, blk q ≠ some b → (∀ m ∈ qs, blk m ≠ some b) → s b = σ b := by
 have hln := hA.rows.len
 have hel : (els preS st qs).length = st.length := els_len hln
 rcases hA.at_.2 with ⟨h0, es', rfl⟩ | ⟨bq, cap, rfl, hbq⟩
 ·have hx : st = [] := List.eq_nil_of_length_eq_zero (by rw [← hel, h0]; rfl)
  subst hx
  refine acalls_W c26_ok rfl ?_
  simp (disch := omega) only [c26, go_sem]
  refine W_loopC (α := Unit) (fun _ => True) (fun _ => [(0, .isl true es' []), (1, .int .i64 k), (5, .int .i64 0)]) (fun _ => σ) (fun _ => 0) () trivial (by simp (disch := omega) only [subT, Int.natCast_add, Int.cast_ofNat_Int, go_sem] <;> (repeat' apply And.intro) <;> first | rfl | (congr 1; omega) | assumption) rfl ?_
  intro _ _ _
  simp (disch := omega) only [List.length_nil, go_sem]
  exact W_retR c26_ok rfl ⟨by simp [look, endS], hA, fun _ _ _ => rfl⟩
 ·rw [hel] at hA ⊢
  generalize hls : (st.map fun s => s.2.length) = ls at *
  have hll : ls.length = st.length := by rw [← hls]; simp
  refine acalls_W c26_ok rfl ?_
  simp (disch := omega) only [c26, go_sem]
  refine W_loopC (α := Nat × St) (fun p => p.1 ≤ st.length ∧ LLA σ0 2 1 preS rowS (mixS k st p.1) (.msl bq 2 0 st.length cap) qs p.2 ∧ ∀ b, b ≠ bq → (∀ m ∈ qs, blk m ≠ some b) → p.2 b = σ b) (fun p => [(0, .msl bq 2 0 st.length cap), (1, .int .i64 (endS k (ls.take p.1))), (5, .int .i64 (p.1 : Nat))]) (fun p => p.2) (fun p => st.length - p.1) (0, σ) ⟨by simp, by rw [mixS_zero]; exact hA, fun _ _ _ => rfl⟩ (by simp (disch := omega) only [subT, Int.natCast_add, Int.cast_ofNat_Int, List.take_zero, endS, go_sem] <;> (repeat' apply And.intro) <;> first | rfl | (congr 1; omega) | assumption) rfl ?_
  rintro ⟨i, s⟩ ⟨hi, hL, hfr⟩ ih
  dsimp only at hi hL hfr
  have hb := hL.at_.has (b := bq) rfl
  have hml := mixS_len (k := k) hi
  have hfl : (flat (els preS (mixS k st i) qs)).length = st.length * 2 := by
   rw [flat_length (fun x hx => (els_ok preS_ok hL.rows x hx).1), els_len hL.rows.len, hml]
  obtain ⟨t1, t2⟩ := endS_take (ls := ls) (k := k) i
  simp (disch := omega) only [go_sem]
  first | refine iteW_dec (fun h1 => ?_) (fun h1 => ?_) | refine iteW_of (fun h1 => ?_) (fun h1 => ?_)
  ·have hi' : i < st.length := by omega
   obtain ⟨q1, hq1⟩ : ∃ q1, qs[i]? = some q1 := ⟨_, List.getElem?_eq_getElem (by omega)⟩
   have hat := markS_at ls k i (by omega)
   have hsu := endS_succ ls k i (by omega)
   obtain ⟨u1, u2⟩ := endS_take (ls := ls) (k := k) (i + 1)
   have hgl : ls.getD i 0 = (st.getD i (false, [])).2.length := by rw [← hls]; simp [List.getD, hi']
   have hmx := mixS_at (k := k) hi'
   have hrow := hL.rows.at_ i _ q1 hmx hq1
   have hni := hn _ (getD_mem (false, []) hi')
   have hset := mixS_set (k := k) hi'
   rw [hls, hat] at hset
   have hapq : Apt q1 (.msl bq 2 0 st.length cap) := hL.ap q1 (List.mem_of_getElem? hq1)
   have hmk := els_mark hL.rows (by rw [hml]; exact hi') hq1 (decide ((endS k (ls.take i)).tmod 3 = 0), (st.getD i (false, [])).2)
   have hL1 : LLA σ0 2 1 preS rowS ((mixS k st i).set i (decide ((endS k (ls.take i)).tmod 3 = 0), (st.getD i (false, [])).2)) (.msl bq 2 0 st.length cap) qs (upd s bq ((flat (els preS (mixS k st i) qs)).set (i * 2) (.bool (decide ((endS k (ls.take i)).tmod 3 = 0))))) := by
    refine hL.set (by rw [hml]; exact hi') hq1 ?_ (hrow.upd (fun e => hapq bq e rfl)) (fun j m _ hm b' hb' => upd_ne _ _ (fun e => by subst e; exact hL.ap m (List.mem_of_getElem? hm) _ hb' rfl))
    rw [hmk]
    refine ⟨els_ok preS_ok (sb := s) (σ0 := σ0) (es := 1) (row := rowS) ⟨by rw [List.length_set]; exact hL.rows.len, ?_, hL.rows.new, hL.rows.ap⟩, .inr ⟨bq, cap, by rw [els_len (by rw [List.length_set]; exact hL.rows.len), List.length_set, hml], upd_same _ _ _⟩⟩
    intro j a m ha hm
    by_cases e : j = i
    ·subst e
     rw [hq1] at hm; obtain rfl := Option.some.inj hm
     rw [List.getElem?_set_self (by rw [hml]; exact hi')] at ha; obtain rfl := Option.some.inj ha
     exact hrow
    ·rw [List.getElem?_set_ne (Ne.symm e)] at ha
     exact hL.rows.at_ j a m ha hm
   have hg := els_row hL1.rows (by rw [List.length_set, hml]; exact hi') hq1
   have hb1 := hL1.at_.has (b := bq) rfl
   have hrow1 := hL1.rows.at_ i _ q1 (List.getElem?_set_self (by rw [hml]; exact hi')) hq1
   generalize endS k (ls.take i) = p at *
   simp (disch := omega) only [hb, hfl, go_sem]
   generalize hs1 : upd s bq ((flat (els preS (mixS k st i) qs)).set (i * 2) (.bool (decide (p.tmod 3 = 0)))) = s1 at *
   simp only [hmk, hg]
   refine SRun.callQ (markIntS_at (k := p + 1) (xs := (st.getD i (false, [])).2) hrow1 (by omega) (by omega)) ⟨[], rfl, rfl⟩ rfl ?_
   rintro r s2 ⟨rfl, e2⟩
   simp (disch := omega) only [go_sem]
   refine ih (i + 1, s2) _ _ ⟨by simp only; omega, ?_, fun b hb hm => ?_⟩ (by simp only; omega) ?_ rfl
   ·rw [← hset]
    have := hL1.set (a := (decide (p.tmod 3 = 0), upFrom (p + 1) (ls.getD i 0))) (t := s2) (by rw [List.length_set, hml]; exact hi') hq1 ?_ ?_ ?_
    ·rwa [List.set_set] at this
    ·rw [List.set_set, e2]
     have h5 : els preS ((mixS k st i).set i (decide (p.tmod 3 = 0), upFrom (p + 1) (ls.getD i 0))) qs = els preS ((mixS k st i).set i (decide (p.tmod 3 = 0), (st.getD i (false, [])).2)) qs := by rw [els_set hq1, els_set hq1]; rfl
     rw [h5]
     exact hL1.at_.to fun b hb => wrt_ne (fun e => hapq b e hb)
    ·rw [e2]
     have := hrow1.wrt (ys := ints (upFrom (p + 1) (ls.getD i 0))) (by rw [ints_len, upFrom_len, hgl]; simp [rowS, ints_len]) (ints_ok _)
     rw [flat_ints] at this
     rw [hgl] at this ⊢
     exact this
    ·intro j m hj hm b hb
     rw [e2]
     refine wrt_ne (fun e => ?_)
     rcases Nat.lt_or_gt_of_ne hj with h | h
     ·exact hL1.rows.ap j i m q1 h hm hq1 b hb e
     ·exact hL1.rows.ap i j q1 m h hq1 hm b e hb
   ·dsimp only
    rw [e2, wrt_ne (hm q1 (List.mem_of_getElem? hq1)), ← hs1]
    exact (upd_ne _ _ hb).trans (hfr b hb hm)
   ·simp only [hsu, hgl]
    exact (by simp (disch := omega) only [subT, Int.natCast_add, Int.cast_ofNat_Int, go_sem] <;> (repeat' apply And.intro) <;> first | rfl | (congr 1; omega) | assumption)
  ·have hil : i = st.length := by omega
   subst hil
   rw [mixS_all, hls] at hL
   rw [List.take_of_length_le (by omega)]
   simp (disch := omega) only [go_sem]
   exact W_retR c26_ok rfl ⟨rfl, hL, fun b hb hm => hfr b (fun e => hb (by rw [e]; rfl)) hm⟩
end
end Go.Proofs.Ytdenfjbhkdhlkaa.Lg
