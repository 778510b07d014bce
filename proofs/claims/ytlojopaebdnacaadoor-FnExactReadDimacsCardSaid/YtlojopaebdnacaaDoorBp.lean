/- A formula that is being read: its clauses so far and the clause begun lie in blocks of their own, beside the reader's box. -/
import Derived.Test.YtlojopaebdnacaaDoorBu
set_option linter.unusedSimpArgs false
set_option linter.unusedVariables false
namespace Go.Proofs.YtlojopaebdnacaaDoor.Lg
open Go Go.Lib
attribute [local irreducible] SRun DS DRun
variable {Γ : St} {σ σ0 : St}
theorem cup_upd1 {s : St} {b : Nat} {c : List V} (hd : disj s (upd emp b c)) : cup s (upd emp b c) = upd s b c := by
  funext d
  by_cases e : d = b
  · subst e
    rw [upd_same]
    rcases hd d with h | h
    · simp only [cup, h, upd_same]
    · rw [upd_same] at h; cases h
  · rw [upd_ne _ _ e]
    simp only [cup, upd_ne _ _ e]
    cases s d <;> rfl
theorem At.del {es : Nat} {xs : List V} {q : V} (h : At σ es xs q) {b : Nat} (hb : blk q ≠ some b) : At (Lg.del σ b) es xs q := h.to fun d hd => del_ne _ (fun e => hb (by rw [← e]; exact hd))
/-- An append, while a block is read that is apart. -/
theorem AppAt.put {es rb : Nat} {xs c : List V} {q q' : V} {s s' : St} (h : AppAt (del s rb) es xs q q' s') (hc : s rb = some c) (hq : blk q ≠ some rb) (hd : disj s' (upd emp rb c)) : AppAt s es xs q q' (upd s' rb c) ∧ blk q' ≠ some rb := by
  have hn : s' rb = none := by
    rcases hd rb with h | h
    · exact h
    · rw [upd_same] at h; cases h
  have hq' : blk q' ≠ some rb := fun e => by have := h.at_.has e; rw [hn] at this; cases this
  refine ⟨⟨h.at_.upd hq', fun b hb => ?_, fun d h1 h2 => ?_⟩, hq'⟩
  · have e : b ≠ rb := fun e => hq' (by rw [hb, e])
    rcases h.blk_ b hb with h1 | h1
    · exact .inl h1
    · rw [del_ne _ e] at h1; exact .inr h1
  · by_cases e : d = rb
    · subst e; rw [upd_same, hc]
    · rw [upd_ne _ _ e, h.keep d h1 h2, del_ne _ e]
/-- What a reader of formulas has so far. -/
structure DimL (σ0 : St) (rb : Nat) (cls : List (List Int)) (now : List Int) (q : V) (qs : List V) (qn : V) (s : St) : Prop where
  lla : LLA σ0 1 1 pre0 ints cls q qs s
  now : At s 1 (ints now) qn
  nnew : ∀ b, blk qn = some b → σ0 b = none
  nq : Apt qn q
  nqs : ∀ m ∈ qs, Apt m qn
  rq : blk q ≠ some rb
  rqs : ∀ m ∈ qs, blk m ≠ some rb
  rn : blk qn ≠ some rb
  rnew : σ0 rb = none
  le : ∀ b c, σ0 b = some c → s b = some c
section
variable {rb : Nat} {cls : List (List Int)} {now : List Int} {q : V} {qs : List V} {qn : V} {s s' : St}
theorem DimL.box (h : DimL σ0 rb cls now q qs qn s) (c : List V) : DimL σ0 rb cls now q qs qn (upd s rb c) :=
  ⟨h.lla.to (fun b hb => upd_ne _ _ (fun e => h.rq (by rw [hb, e]))) (fun m hm b hb => upd_ne _ _ (fun e => h.rqs m hm (by rw [hb, e]))), h.now.upd h.rn, h.nnew, h.nq, h.nqs, h.rq, h.rqs, h.rn, h.rnew, fun b c' hb => (upd_ne _ _ (fun e => by subst e; rw [h.rnew] at hb; cases hb)).trans (h.le b c' hb)⟩
theorem DimL.mono (h : DimL σ0 rb cls now q qs qn s) (hs : ∀ b c, s b = some c → s' b = some c) : DimL σ0 rb cls now q qs qn s' :=
  ⟨h.lla.mono hs, h.now.mono hs, h.nnew, h.nq, h.nqs, h.rq, h.rqs, h.rn, h.rnew, fun b c hb => hs _ _ (h.le b c hb)⟩
theorem DimL.more (h : DimL σ0 rb cls now q qs qn s) {c : List V} (hr : s rb = some c) {now' : List Int} {qn' : V} (ha : AppAt s 1 (ints now') qn qn' s') : DimL σ0 rb cls now' q qs qn' s' ∧ s' rb = some c := by
  have hdom : ∀ b, s b = none → σ0 b = none := none_of h.le
  have off : ∀ m xs, At s 1 xs m → Apt m qn → Apt m qn' := fun m xs hm hap b hb e => by
    rcases ha.blk_ b e with e2 | e2
    · exact hap b hb e2
    · rw [hm.has hb] at e2; cases e2
  have kq : ∀ m xs, At s 1 xs m → Apt m qn → ∀ b, blk m = some b → s' b = s b := fun m xs hm hap b hb => ha.keep b (hap b hb) (off m xs hm hap b hb)
  have hqa := h.lla.at_
  have hrn : blk qn' ≠ some rb := fun e => by
    rcases ha.blk_ _ e with e2 | e2
    · exact h.rn e2
    · rw [hr] at e2; cases e2
  refine ⟨⟨h.lla.to (kq _ _ hqa h.nq.symm) (fun m hm => ?_), ha.at_, ha.new hdom h.nnew, (off _ _ hqa h.nq.symm).symm, fun m hm => ?_, h.rq, h.rqs, hrn, h.rnew, fun b c hb => ha.get (h.le b c hb) (fun e => by rw [h.nnew b e] at hb; cases hb)⟩, ha.get hr h.rn⟩
  · obtain ⟨a, hm'⟩ := h.lla.rows.has hm
    exact kq _ _ hm' (h.nqs m hm)
  · obtain ⟨a, hm'⟩ := h.lla.rows.has hm
    exact off _ _ hm' (h.nqs m hm)
theorem DimL.push (h : DimL σ0 rb cls now q qs qn s) {c : List V} (hr : s rb = some c) {q' : V} (ha : AppAt s 1 (els pre0 cls qs ++ [qn]) q q' s') {es : Nat} : DimL σ0 rb (cls ++ [now]) [] q' (qs ++ [qn]) (.isl true es []) s' ∧ s' rb = some c := by
  have hL := h.lla.push pre0_ok (a := now) (m := qn) (q' := q') (t := s') h.le h.now h.nnew h.nq h.nqs ha.at_ ha.blk_ ha.keep
  have hrq : blk q' ≠ some rb := fun e => by
    rcases ha.blk_ _ e with e2 | e2
    · exact h.rq e2
    · rw [hr] at e2; cases e2
  refine ⟨⟨hL, ⟨fun x hx => (by cases hx), .inl ⟨rfl, es, rfl⟩⟩, fun b hb => (by cases hb), fun b hb => (by cases hb), fun m hm b hb e => (by cases e), hrq, fun m hm => ?_, fun e => (by cases e), h.rnew, fun b c hb => ha.get (h.le b c hb) (fun e => by rw [h.lla.new b e] at hb; cases hb)⟩, ha.get hr h.rq⟩
  rcases List.mem_append.1 hm with hm | hm
  · exact h.rqs m hm
  · rw [List.mem_singleton.1 hm]; exact h.rn
theorem DimL.start {es es' : Nat} (hb : σ0 rb = none) (c : List V) : DimL σ0 rb [] [] (.isl true es []) [] (.isl true es' []) (upd σ0 rb c) :=
  ⟨LLA.nil, ⟨fun x hx => (by cases hx), .inl ⟨rfl, es', rfl⟩⟩, fun b h => (by cases h), fun b h => (by cases h), fun m hm => (by cases hm), fun e => (by cases e), fun m hm => (by cases hm), fun e => (by cases e), hb, le_upd hb⟩
end
end Go.Proofs.YtlojopaebdnacaaDoor.Lg
