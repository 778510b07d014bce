/- Lists whose elements hold a list each, all new and apart: told once for whatever stands ahead in an element. -/
import Derived.Test.YtjibkkhgejcjeaaGreatDoorHa
set_option linter.unusedSimpArgs false
set_option linter.unusedVariables false
namespace Go.Proofs.YtjibkkhgejcjeaaGreatDoor.Lg
open Go
attribute [local irreducible] SRun DS DRun
variable {Γ : St} {σ σ0 : St}
/-- Two lists stand in blocks apart. -/
def Apt (q q' : V) : Prop := ∀ b, blk q = some b → blk q' ≠ some b
theorem Apt.symm {q q' : V} (h : Apt q q') : Apt q' q := fun b hb e => h b e hb
theorem At.plain0 {es : Nat} {xs : List V} {q : V} (h : At σ es xs q) : Plain q := by
  rcases h.2 with ⟨_, _, rfl⟩ | ⟨_, _, rfl, _⟩
  · exact .isl0 _ _
  · exact .msl _ _ _ _ _
theorem cup_le0 {s' : St} (hd : disj s' σ) : ∀ b c, σ b = some c → cup s' σ b = some c := fun b c h => by
  rcases hd b with e | e
  · simp only [cup, e, h]
  · rw [h] at e; cases e
theorem At.upd {es : Nat} {xs : List V} {q : V} (h : At σ es xs q) {b : Nat} {c : List V} (hb : blk q ≠ some b) : At (Lg.upd σ b c) es xs q := h.to fun d hd => upd_ne _ _ (fun e => hb (by rw [← e]; exact hd))
/-- An element: what stands ahead, and its list. -/
def elV : List V → V → V
  | [], q => q
  | p :: ps, q => .agg (p :: ps ++ [q])
theorem elV_cells {ps : List V} {q : V} (hq : q.cells = [q]) : (elV ps q).cells = ps ++ [q] := by
  cases ps with
  | nil => simpa [elV] using hq
  | cons p ps => rfl
section
variable {α : Type}
/-- The elements' lists: each new, in a block of its own. -/
structure RwAt (σ0 sb : St) (es : Nat) (row : α → List V) (vs : List α) (qs : List V) : Prop where
  len : qs.length = vs.length
  at_ : ∀ (i : Nat) (a : α) (q : V), vs[i]? = some a → qs[i]? = some q → At sb es (row a) q
  new : ∀ m ∈ qs, ∀ b, blk m = some b → σ0 b = none
  ap : ∀ (i j : Nat) (q q' : V), i < j → qs[i]? = some q → qs[j]? = some q' → Apt q q'
variable {es : Nat} {row : α → List V} {vs : List α} {qs : List V} {sb s s0 : St}
theorem RwAt.has (h : RwAt σ0 sb es row vs qs) {m : V} (hm : m ∈ qs) : ∃ a, At sb es (row a) m := by
  obtain ⟨i, hi, rfl⟩ := List.getElem_of_mem hm
  have hl := h.len
  exact ⟨vs[i], h.at_ i vs[i] qs[i] (by simp [show i < vs.length by omega]) (by simp [hi])⟩
theorem RwAt.cells (h : RwAt σ0 sb es row vs qs) {m : V} (hm : m ∈ qs) : m.cells = [m] ∧ m.one = true := by
  obtain ⟨a, ha⟩ := h.has hm; exact ⟨ha.cells, ha.one⟩
theorem RwAt.to (h : RwAt σ0 sb es row vs qs) (hs : ∀ m ∈ qs, ∀ b, blk m = some b → s b = sb b) : RwAt σ0 s es row vs qs :=
  ⟨h.len, fun i a q ha hq => (h.at_ i a q ha hq).to (hs q (List.mem_of_getElem? hq)), h.new, h.ap⟩
theorem RwAt.mono (h : RwAt σ0 sb es row vs qs) (hs : ∀ b c, sb b = some c → s b = some c) : RwAt σ0 s es row vs qs :=
  ⟨h.len, fun i a q ha hq => (h.at_ i a q ha hq).mono hs, h.new, h.ap⟩
theorem RwAt.less (h : RwAt σ0 sb es row vs qs) (hs : ∀ b, σ0 b = none → s0 b = none) : RwAt s0 sb es row vs qs :=
  ⟨h.len, h.at_, fun m hm b hb => hs b (h.new m hm b hb), h.ap⟩
theorem RwAt.nil : RwAt σ0 sb es row [] [] := ⟨rfl, fun i a q h => (by simp at h), fun m hm => (by cases hm), fun i j q q' _ h => (by simp at h)⟩
theorem RwAt.snoc (h : RwAt σ0 sb es row vs qs) {a : α} {r : V} (hr : At sb es (row a) r) (hn : ∀ b, blk r = some b → σ0 b = none) (ha : ∀ m ∈ qs, Apt m r) : RwAt σ0 sb es row (vs ++ [a]) (qs ++ [r]) := by
  have hl := h.len
  refine ⟨by simp [hl], fun i b q hb hq => ?_, fun m hm b hb => ?_, fun i j q q' hij hq hq' => ?_⟩
  · rcases Nat.lt_or_ge i vs.length with hi | hi
    · rw [List.getElem?_append_left hi] at hb
      rw [List.getElem?_append_left (by omega)] at hq
      exact h.at_ i b q hb hq
    · rw [List.getElem?_append_right hi] at hb
      rw [List.getElem?_append_right (by omega)] at hq
      have hi2 := (List.getElem?_eq_some_iff.1 hb).1
      have e : i - vs.length = 0 := by simp at hi2; omega
      have e2 : i - qs.length = 0 := by omega
      rw [e] at hb; rw [e2] at hq
      simp at hb hq; subst hb hq; exact hr
  · rcases List.mem_append.1 hm with hm | hm
    · exact h.new m hm b hb
    · rw [List.mem_singleton.1 hm] at hb; exact hn b hb
  · rcases Nat.lt_or_ge j qs.length with hj | hj
    · rw [List.getElem?_append_left (by omega)] at hq
      rw [List.getElem?_append_left hj] at hq'
      exact h.ap i j q q' hij hq hq'
    · rw [List.getElem?_append_right hj] at hq'
      have hj2 := (List.getElem?_eq_some_iff.1 hq').1
      have e : j - qs.length = 0 := by simp at hj2; omega
      rw [e] at hq'
      simp at hq'; subst hq'
      rw [List.getElem?_append_left (by simp at hj2; omega)] at hq
      exact ha q (List.mem_of_getElem? hq)
/-- The outer list's elements. -/
def els (pre : α → List V) (vs : List α) (qs : List V) : List V := List.zipWith (fun a q => elV (pre a) q) vs qs
theorem els_len {pre : α → List V} (h : qs.length = vs.length) : (els pre vs qs).length = vs.length := by simp [els, h]
theorem els_at {pre : α → List V} {i : Nat} {a : α} {q : V} (ha : vs[i]? = some a) (hq : qs[i]? = some q) : (els pre vs qs)[i]? = some (elV (pre a) q) := by simp [els, List.getElem?_zipWith, ha, hq]
theorem els_get {pre : α → List V} {i : Nat} {x : V} (h : (els pre vs qs)[i]? = some x) : ∃ a q, vs[i]? = some a ∧ qs[i]? = some q ∧ x = elV (pre a) q := by
  unfold els at h
  rw [List.getElem?_zipWith] at h
  cases ha : vs[i]? with
  | none => rw [ha] at h; simp at h
  | some a =>
    cases hq : qs[i]? with
    | none => rw [ha, hq] at h; simp at h
    | some q => rw [ha, hq] at h; simp at h; exact ⟨a, q, rfl, rfl, h.symm⟩
theorem els_snoc {pre : α → List V} (h : qs.length = vs.length) (a : α) (q : V) : els pre (vs ++ [a]) (qs ++ [q]) = els pre vs qs ++ [elV (pre a) q] := by
  unfold els; rw [List.zipWith_append h.symm]; rfl
/-- What stands ahead in each element is plain. -/
structure PreOK (pre : α → List V) (k : Nat) : Prop where
  pos : 0 < k
  len : ∀ a, (pre a).length + 1 = k
  one : ∀ a, ∀ c ∈ pre a, c.one = true ∧ Plain c
theorem els_ok {pre : α → List V} {k : Nat} (hp : PreOK pre k) (h : RwAt σ0 sb es row vs qs) : ∀ x ∈ els pre vs qs, x.cells.length = k ∧ ∀ c ∈ x.cells, c.one = true := by
  intro x hx
  obtain ⟨i, hi, rfl⟩ := List.getElem_of_mem hx
  obtain ⟨a, q, ha, hq, e⟩ := els_get (List.getElem?_eq_getElem hi)
  have hc := h.cells (List.mem_of_getElem? hq)
  rw [e, elV_cells hc.1]
  refine ⟨by simp [hp.len a], fun c hc2 => ?_⟩
  rcases List.mem_append.1 hc2 with h1 | h1
  · exact (hp.one a c h1).1
  · rw [List.mem_singleton.1 h1]; exact hc.2
/-- A list of such elements in place: all new, apart. -/
structure LLA (σ0 : St) (k es : Nat) (pre row : α → List V) (vs : List α) (q : V) (qs : List V) (s : St) : Prop where
  at_ : At s k (els pre vs qs) q
  rows : RwAt σ0 s es row vs qs
  new : ∀ b, blk q = some b → σ0 b = none
  ap : ∀ m ∈ qs, Apt m q
variable {pre : α → List V} {k : Nat} {q : V} {t : St}
theorem LLA.nil {es' : Nat} : LLA σ0 k es pre row [] (.isl true es' []) [] s :=
  ⟨⟨fun x hx => (by cases hx), .inl ⟨rfl, es', rfl⟩⟩, RwAt.nil, fun b hb => (by cases hb), fun m hm => (by cases hm)⟩
theorem LLA.to (h : LLA σ0 k es pre row vs q qs s) (h1 : ∀ b, blk q = some b → t b = s b) (h2 : ∀ m ∈ qs, ∀ b, blk m = some b → t b = s b) : LLA σ0 k es pre row vs q qs t :=
  ⟨h.at_.to h1, h.rows.to h2, h.new, h.ap⟩
theorem LLA.mono (h : LLA σ0 k es pre row vs q qs s) (hs : ∀ b c, s b = some c → t b = some c) : LLA σ0 k es pre row vs q qs t :=
  ⟨h.at_.mono hs, h.rows.mono hs, h.new, h.ap⟩
theorem LLA.less (h : LLA σ0 k es pre row vs q qs s) (hs : ∀ b, σ0 b = none → s0 b = none) : LLA s0 k es pre row vs q qs s :=
  ⟨h.at_, h.rows.less hs, fun b hb => hs b (h.new b hb), h.ap⟩
/-- What it says, once it is given up. -/
def elsF (pre row : α → List V) (es : Nat) (vs : List α) : List V := vs.map fun a => elV (pre a) (.isl false es (row a))
theorem elsF_ok (hp : PreOK pre k) : ∀ x ∈ elsF pre row es vs, x.cells.length = k ∧ ∀ c ∈ x.cells, c.one = true := by
  intro x hx
  obtain ⟨a, _, rfl⟩ := List.mem_map.1 hx
  rw [elV_cells rfl]
  refine ⟨by simp [hp.len a], fun c hc => ?_⟩
  rcases List.mem_append.1 hc with h1 | h1
  · exact (hp.one a c h1).1
  · rw [List.mem_singleton.1 h1]; rfl
theorem flat_cell {xs : List V} {k : Nat} (h : ∀ x ∈ xs, x.cells.length = k) : ∀ {i j : Nat} {x c : V}, xs[i]? = some x → j < k → (flat xs)[i * k + j]? = x.cells[j]? := by
  induction xs with
  | nil => intro i j x c hx; simp at hx
  | cons y ys ih =>
    intro i j x c hx hj
    have hy := h y (by simp)
    simp only [flat, List.flatMap_cons] at ih ⊢
    cases i with
    | zero =>
      simp at hx; subst hx
      rw [Nat.zero_mul, Nat.zero_add, List.getElem?_append_left (by omega)]
    | succ i =>
      simp at hx
      rw [List.getElem?_append_right (by rw [hy, Nat.succ_mul]; omega), hy, show (i + 1) * k + j - k = i * k + j by rw [Nat.succ_mul]; omega]
      exact ih (fun z hz => h z (by simp [hz])) (c := c) hx hj
theorem LLA.frz (hp : PreOK pre k) (h : LLA σ0 k es pre row vs q qs s) (h1 : ∀ b, blk q = some b → t b = none) (h2 : ∀ m ∈ qs, ∀ b, blk m = some b → t b = none) : Frz s t q (.isl false k (elsF pre row es vs)) := by
  have hl := h.rows.len
  have hE := els_ok hp h.rows
  have hF := elsF_ok (row := row) (es := es) (vs := vs) hp
  have hel : (els pre vs qs).length = vs.length := els_len hl
  have hk := hp.pos
  rcases h.at_.2 with ⟨h0, es', rfl⟩ | ⟨b, cap, rfl, hb⟩
  · have hx : vs = [] := List.eq_nil_of_length_eq_zero (by rw [← hel, h0]; rfl)
    subst hx
    exact .isl0 _ _ _ _ fun h => by cases h
  · have hfe : (flat (els pre vs qs)).length = vs.length * k := by rw [flat_length fun x hx => (hE x hx).1, hel]
    refine .msl b k 0 _ cap _ (elsF pre row es vs) hb (h1 b rfl) (by rw [hfe, hel]; omega) (by rw [hel]; simp [elsF]) (fun x hx => (hF x hx).1) (by rw [flat_length fun x hx => (hF x hx).1, hel]; simp [elsF]) (fun i x hx => flat_ones (fun x hm => (hF x hm).2) x (List.mem_of_getElem? hx)) fun i x y hy hx => ?_
    rw [Nat.zero_add] at hy
    have hi : i < vs.length * k := by have := (List.getElem?_eq_some_iff.1 hy).1; omega
    have hdiv : i / k < vs.length := Nat.div_lt_of_lt_mul (by rw [Nat.mul_comm]; exact hi)
    have hmod : i % k < k := Nat.mod_lt _ hk
    have hsplit : i / k * k + i % k = i := by rw [Nat.mul_comm]; exact Nat.div_add_mod i k
    have ha : vs[i / k]? = some vs[i / k] := by simp [hdiv]
    have hq : qs[i / k]? = some (qs[i / k]'(by omega)) := by simp [show i / k < qs.length by omega]
    generalize vs[i / k] = a at *
    generalize qs[i / k]'(by omega) = q' at *
    have e1 := flat_cell (fun x hx => (hE x hx).1) (c := .undef) (els_at (pre := pre) ha hq) hmod
    have e2 := flat_cell (fun x hx => (hF x hx).1) (c := .undef) (show (elsF pre row es vs)[i / k]? = some (elV (pre a) (.isl false es (row a))) by simp [elsF, ha]) hmod
    rw [hsplit] at e1 e2
    have hcq := h.rows.cells (List.mem_of_getElem? hq)
    rw [elV_cells hcq.1] at e1
    rw [elV_cells rfl] at e2
    rw [e1] at hy
    rw [e2] at hx
    have hpl := hp.len a
    rcases Nat.lt_or_ge (i % k) (pre a).length with hlt | hge
    · rw [List.getElem?_append_left hlt] at hy hx
      rw [hy] at hx
      obtain rfl := Option.some.inj hx
      exact .refl _
    · rw [List.getElem?_append_right hge] at hy hx
      have e0 : i % k - (pre a).length = 0 := by omega
      rw [e0] at hy hx
      simp at hy hx
      subst hy hx
      exact (h.rows.at_ _ _ _ ha hq).frz fun b hb => h2 _ (List.mem_of_getElem? hq) b hb
theorem LLA.push (hp : PreOK pre k) (h : LLA σ0 k es pre row vs q qs s) {a : α} {m q' : V} (hle : ∀ b c, σ0 b = some c → s b = some c) (hm : At s es (row a) m) (hn : ∀ b, blk m = some b → σ0 b = none) (hq : Apt m q) (ha : ∀ m' ∈ qs, Apt m' m)
    (h1 : At t k (els pre vs qs ++ [elV (pre a) m]) q') (h2 : ∀ b, blk q' = some b → blk q = some b ∨ s b = none) (h3 : ∀ d, blk q ≠ some d → blk q' ≠ some d → t d = s d) : LLA σ0 k es pre row (vs ++ [a]) q' (qs ++ [m]) t := by
  have off : ∀ m', (∃ a, At s es (row a) m') → Apt m' q → Apt m' q' := fun m' ⟨a', ha'⟩ hap b hb e => by
    rcases h2 b e with h | h
    · exact hap b hb h
    · rw [ha'.has hb] at h; cases h
  have hmq := off m ⟨a, hm⟩ hq
  have hrq := fun m' hm' => off m' (h.rows.has hm') (h.ap m' hm')
  have keep : ∀ m', Apt m' q → Apt m' q' → ∀ b, blk m' = some b → t b = s b := fun m' e1 e2 b hb => h3 b (e1 b hb) (e2 b hb)
  refine ⟨by rw [els_snoc h.rows.len]; exact h1, (h.rows.to fun m' hm' => keep m' (h.ap m' hm') (hrq m' hm')).snoc (hm.to (keep m hq hmq)) hn ha, fun b hb => ?_, fun m' hm' => ?_⟩
  · rcases h2 b hb with h' | h'
    · exact h.new b h'
    · exact none_of hle b h'
  · rcases List.mem_append.1 hm' with h' | h'
    · exact hrq m' h'
    · rw [List.mem_singleton.1 h']; exact hmq
theorem LLA.blk_has (h : LLA σ0 k es pre row vs q qs s) {b : Nat} (hb : blk q = some b ∨ ∃ m ∈ qs, blk m = some b) : s b ≠ none := by
  rcases hb with hb | ⟨m, hm, hb⟩
  · rw [h.at_.has hb]; simp
  · obtain ⟨a, ha⟩ := h.rows.has hm
    rw [ha.has hb]; simp
end
section
variable {P : Program} {f : FuncId} {n : Nat} {Q : V → St → Prop} {k : List It} {T : Ts}
/-- What an append to a list in place leaves. -/
structure AppAt (σ : St) (es : Nat) (xs : List V) (q q' : V) (s' : St) : Prop where
  at_ : At s' es xs q'
  blk_ : ∀ b, blk q' = some b → blk q = some b ∨ σ b = none
  keep : ∀ d, blk q ≠ some d → blk q' ≠ some d → s' d = σ d
theorem InsOK.appAt {es by_ : Nat} {s x : Opd} {xs ys : List V} {m : Nat} (h : At σ es xs (ev Γ T s)) (hx : srcV σ es (ev Γ T x) = some (flat ys, m)) (hm : m = ys.length) (hy : ∀ y ∈ ys, y.cells.length = es ∧ ∀ c ∈ y.cells, c.one = true) (hfit : (xs.length + ys.length) * by_ ≤ 140737488355328) :
    InsOK P Γ (.app es by_ s x) T σ fun q' s' => AppAt σ es (xs ++ ys) (ev Γ T s) q' s' := by
  subst hm
  have hxy : ∀ y ∈ xs ++ ys, y.cells.length = es ∧ ∀ c ∈ y.cells, c.one = true := fun y h' => (List.mem_append.1 h').elim (h.1 y) (hy y)
  rcases h.2 with ⟨rfl, es', he⟩ | ⟨b0, cap0, he, hb0⟩
  · refine InsOK.app (old := []) (sLen := 0) (by rw [he]; exact .isl [] es' (.inl rfl)) hx (by simpa using hfit) (fun b cap hb hc => ?_) (fun hm ex es2 xs2 he2 => ?_)
    · rw [he] at hb ⊢
      refine ⟨⟨hxy, .inr ⟨b, cap, by simp, by simp [baseDel, upd_same]⟩⟩, fun b' hb' => ?_, fun d h1 h2 => ?_⟩
      · simp only [blk, Option.some.injEq] at hb'; subst hb'; exact .inr hb
      · exact upd_ne _ _ (fun e => h2 (by rw [e]; rfl))
    · rw [he] at he2
      injection he2 with e1 e2 e3
      subst e1 e2 e3
      have : ys = [] := List.eq_nil_of_length_eq_zero hm
      subst this
      exact ⟨⟨fun y hy => (by cases hy), .inl ⟨rfl, _, rfl⟩⟩, fun b hb => (by cases hb), fun _ _ _ => rfl⟩
  · have hfl : (flat xs).length = xs.length * es := flat_length fun x hx' => (h.1 x hx').1
    refine InsOK.app (old := flat xs) (sLen := xs.length) (by
      rw [he]
      have := Base.msl (σ := σ) (es := es) b0 xs.length cap0 (flat xs) hb0 (by rw [hfl]; exact Nat.le_refl _)
      rwa [List.take_of_length_le (by rw [hfl]; exact Nat.le_refl _)] at this) hx hfit (fun b cap hb hc => ?_) (fun hm ex es2 xs2 he2 => by rw [he] at he2; cases he2)
    rw [he] at hb ⊢
    simp only [baseDel] at hb ⊢
    refine ⟨⟨hxy, .inr ⟨b, cap, by simp, by rw [upd_same, flat_append]⟩⟩, fun b' hb' => ?_, fun d h1 h2 => ?_⟩
    · simp only [blk, Option.some.injEq] at hb'; subst hb'
      by_cases e : b = b0
      · subst e; exact .inl rfl
      · rw [del_ne _ e] at hb; exact .inr hb
    · rw [upd_ne _ _ (fun e => h2 (by rw [e]; rfl)), del_ne _ (fun e => h1 (by rw [e]; rfl))]
theorem SRun.appAt {d : Option Nat} {l : List GI} {es by_ : Nat} {s x : Opd} {xs ys : List V} {m : Nat} (h : At σ es xs (ev Γ T s)) (hx : srcV σ es (ev Γ T x) = some (flat ys, m)) (hm : m = ys.length) (hy : ∀ y ∈ ys, y.cells.length = es ∧ ∀ c ∈ y.cells, c.one = true) (hfit : (xs.length + ys.length) * by_ ≤ 140737488355328)
    (hk : ∀ q' s', AppAt σ es (xs ++ ys) (ev Γ T s) q' s' → W P Γ f n Q (.ops l :: k) (putT T d q') s') : SRun P Γ f n (.ops (⟨d, none, .app es by_ s x⟩ :: l) :: k) T σ Q :=
  SRun.op rfl (InsOK.appAt h hx hm hy hfit) fun q' s' h' => (hk q' s' h').sound
theorem WrF.appAt {d : Option Nat} {es by_ : Nat} {s x : Opd} {xs ys : List V} {m : Nat} (h : At σ es xs (ev Γ T s)) (hx : srcV σ es (ev Γ T x) = some (flat ys, m)) (hm : m = ys.length) (hy : ∀ y ∈ ys, y.cells.length = es ∧ ∀ c ∈ y.cells, c.one = true) (hfit : (xs.length + ys.length) * by_ ≤ 140737488355328) :
    WrF P Γ σ T ⟨d, none, .app es by_ s x⟩ fun q' s' => AppAt σ es (xs ++ ys) (ev Γ T s) q' s' :=
  WrF.of fun T' he => by
    have e1 : ev Γ T' s = ev Γ T s := he s (by simp [I.opds])
    have := InsOK.appAt (P := P) (Γ := Γ) (T := T') (s := s) (x := x) (by_ := by_) (by rw [e1]; exact h) (by rw [he x (by simp [I.opds])]; exact hx) hm hy hfit
    rwa [e1] at this
end
section
variable {P : Program} {f : FuncId} {n : Nat} {Q : V → St → Prop} {k : List It} {T : Ts} {g : GI} {l : List GI}
theorem stepW_len_at {s : St} {es : Nat} {xs : List V} {q : V} (h : At s es xs q) : stepW P Γ f n Q (.len (.c q)) g l k T σ = W P Γ f n Q (.ops l :: k) (putT T g.d (.int .i64 xs.length)) σ := by
  rcases h.2 with ⟨rfl, es', rfl⟩ | ⟨b, cap, rfl, _⟩
  · rw [stepW_len_isl]
  · rw [stepW_len_msl]
theorem stepK_len_at {K : V → St → Prop} {s : St} {es : Nat} {xs : List V} {q : V} (h : At s es xs q) : stepK (.len (.c q)) σ K = K (.int .i64 xs.length) σ := by
  rcases h.2 with ⟨rfl, es', rfl⟩ | ⟨b, cap, rfl, _⟩
  · rw [stepK_len_isl]
  · rw [stepK_len_msl]
end
end Go.Proofs.YtjibkkhgejcjeaaGreatDoor.Lg
