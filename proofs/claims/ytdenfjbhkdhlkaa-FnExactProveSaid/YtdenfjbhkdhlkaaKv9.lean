/- What is told of the functions that are reached, as far as it is asked here. -/
import Derived.Test.YtdenfjbhkdhlkaaKv8
import Derived.KernelRfl
set_option linter.unusedSimpArgs false
set_option linter.unusedVariables false
namespace Go.Proofs.Ytdenfjbhkdhlkaa.Lg
open Go
section
attribute [local irreducible] SRun DS DRun
variable {Γ : St} {σ σ0 : St}
def exK : Ex → Int | .mk k _ _ => k
def exN : Ex → Int | .mk _ n _ => n
def exL : Ex → List Ex | .mk _ _ ks => ks
mutual
/-- The Kids of an expression lie in blocks that are owned, at q; bs are the blocks. -/
def kidsAt (σ : St) : Ex → V → List Nat → Prop
 | .mk _ _ ks, q, bs => (ks = [] ∧ (∃ es, q = .isl true es []) ∧ bs = []) ∨ ∃ b cap cs bs', q = .msl b 3 0 ks.length cap ∧ σ b = some cs ∧ bs = b :: bs' ∧ listAt σ ks cs bs'
def listAt (σ : St) : List Ex → List V → List Nat → Prop
 | [], cs, bs => cs = [] ∧ bs = []
 | e :: r, cs, bs => ∃ q bs1 bs2 cs', cs = .int .i64 (exK e) :: .int .i64 (exN e) :: q :: cs' ∧ bs = bs1 ++ bs2 ∧ kidsAt σ e q bs1 ∧ listAt σ r cs' bs2
end
theorem kidsAt_mk {k n : Int} {ks : List Ex} {q : V} {bs : List Nat} : kidsAt σ (.mk k n ks) q bs = ((ks = [] ∧ (∃ es, q = .isl true es []) ∧ bs = []) ∨ ∃ b cap cs bs', q = .msl b 3 0 ks.length cap ∧ σ b = some cs ∧ bs = b :: bs' ∧ listAt σ ks cs bs') := by rw [kidsAt]
theorem listAt_nil {cs : List V} {bs : List Nat} : listAt σ [] cs bs = (cs = [] ∧ bs = []) := by rw [listAt]
theorem listAt_cons {e : Ex} {r : List Ex} {cs : List V} {bs : List Nat} : listAt σ (e :: r) cs bs = (∃ q bs1 bs2 cs', cs = .int .i64 (exK e) :: .int .i64 (exN e) :: q :: cs' ∧ bs = bs1 ++ bs2 ∧ kidsAt σ e q bs1 ∧ listAt σ r cs' bs2) := by rw [listAt]
theorem exV_K (e : Ex) : exV e = .agg [.int .i64 (exK e), .int .i64 (exN e), .isl false 3 (exsV (exL e))] := by obtain ⟨k, n, ks⟩ := e; exact exV_mk _ _ _
theorem kidsAt.one {e : Ex} {q : V} {bs : List Nat} (h : kidsAt σ e q bs) : q.one = true ∧ q.cells = [q] := by
 obtain ⟨k, n, ks⟩ := e
 rw [kidsAt_mk] at h
 rcases h with ⟨_, ⟨_, rfl⟩, _⟩ | ⟨_, _, _, _, rfl, _⟩ <;> exact ⟨rfl, rfl⟩
theorem listAt.len : ∀ {ks : List Ex} {cs : List V} {bs : List Nat}, listAt σ ks cs bs → cs.length = ks.length * 3 := by
 intro ks
 induction ks with
 | nil => intro cs bs h; rw [listAt_nil] at h; rw [h.1]; rfl
 | cons e r ih =>
  intro cs bs h
  rw [listAt_cons] at h
  obtain ⟨q, b1, b2, cs', rfl, _, _, h2⟩ := h
  have := ih h2
  simp only [List.length_cons]; omega
theorem listAt_more {s : St} : ∀ {ks : List Ex}, (∀ e ∈ ks, ∀ q bs, kidsAt σ e q bs → (∀ b ∈ bs, ∀ c, σ b = some c → s b = some c) → kidsAt s e q bs) → ∀ {cs : List V} {bs : List Nat}, listAt σ ks cs bs → (∀ b ∈ bs, ∀ c, σ b = some c → s b = some c) → listAt s ks cs bs := by
 intro ks
 induction ks with
 | nil => intro _ cs bs h _; rw [listAt_nil] at h ⊢; exact h
 | cons e r ih =>
  intro he cs bs h hs
  rw [listAt_cons] at h ⊢
  obtain ⟨q, b1, b2, cs', rfl, rfl, h1, h2⟩ := h
  exact ⟨q, b1, b2, cs', rfl, rfl, he e (by simp) q b1 h1 (fun b hb => hs b (List.mem_append_left _ hb)), ih (fun x hx => he x (by simp [hx])) h2 (fun b hb => hs b (List.mem_append_right _ hb))⟩
theorem kidsAt.more {s : St} : ∀ (e : Ex) (q : V) (bs : List Nat), kidsAt σ e q bs → (∀ b ∈ bs, ∀ c, σ b = some c → s b = some c) → kidsAt s e q bs := by
 refine Ex.ind fun k n ks ih q bs h hs => ?_
 rw [kidsAt_mk] at h ⊢
 rcases h with h | ⟨b, cap, cs, bs', rfl, hb, rfl, hl⟩
 ·exact .inl h
 ·exact .inr ⟨b, cap, cs, bs', rfl, hs b (by simp) _ hb, rfl, listAt_more ih hl fun d hd => hs d (by simp [hd])⟩
theorem listAt.more {s : St} {ks : List Ex} {cs : List V} {bs : List Nat} (h : listAt σ ks cs bs) (hs : ∀ b ∈ bs, ∀ c, σ b = some c → s b = some c) : listAt s ks cs bs := listAt_more (fun e _ => kidsAt.more e) h hs
theorem listAt_has : ∀ {ks : List Ex}, (∀ e ∈ ks, ∀ q bs, kidsAt σ e q bs → ∀ b ∈ bs, σ b ≠ none) → ∀ {cs : List V} {bs : List Nat}, listAt σ ks cs bs → ∀ b ∈ bs, σ b ≠ none := by
 intro ks
 induction ks with
 | nil => intro _ cs bs h b hb; rw [listAt_nil] at h; rw [h.2] at hb; cases hb
 | cons e r ih =>
  intro he cs bs h b hb
  rw [listAt_cons] at h
  obtain ⟨q, b1, b2, cs', rfl, rfl, h1, h2⟩ := h
  rcases List.mem_append.1 hb with hb | hb
  ·exact he e (by simp) q b1 h1 b hb
  ·exact ih (fun x hx => he x (by simp [hx])) h2 b hb
theorem kidsAt.has : ∀ (e : Ex) (q : V) (bs : List Nat), kidsAt σ e q bs → ∀ b ∈ bs, σ b ≠ none := by
 refine Ex.ind fun k n ks ih q bs h b hb => ?_
 rw [kidsAt_mk] at h
 rcases h with ⟨_, _, rfl⟩ | ⟨d, cap, cs, bs', rfl, hd, rfl, hl⟩
 ·cases hb
 ·rcases List.mem_cons.1 hb with rfl | hb
  ·rw [hd]; simp
  ·exact listAt_has ih hl b hb
theorem listAt.has {ks : List Ex} {cs : List V} {bs : List Nat} (h : listAt σ ks cs bs) : ∀ b ∈ bs, σ b ≠ none := listAt_has (fun e _ => kidsAt.has e) h
theorem listAt_app : ∀ {xs ys : List Ex} {c1 c2 : List V} {b1 b2 : List Nat}, listAt σ xs c1 b1 → listAt σ ys c2 b2 → listAt σ (xs ++ ys) (c1 ++ c2) (b1 ++ b2) := by
 intro xs
 induction xs with
 | nil => intro ys c1 c2 b1 b2 h h2; rw [listAt_nil] at h; obtain ⟨rfl, rfl⟩ := h; exact h2
 | cons e r ih =>
  intro ys c1 c2 b1 b2 h h2
  rw [listAt_cons] at h
  obtain ⟨q, d1, d2, cs', rfl, rfl, h3, h4⟩ := h
  rw [List.cons_append, listAt_cons]
  exact ⟨q, d1, d2 ++ b2, cs' ++ c2, rfl, by rw [List.append_assoc], h3, ih h4 h2⟩
/-- Of what is owned, less is said: it is lent. -/
theorem listAt_lend {s : St} : ∀ {ks : List Ex}, (∀ e ∈ ks, ∀ q bs, kidsAt σ e q bs → (∀ b ∈ bs, s b = none) → Frz σ s q (.isl false 3 (exsV (exL e)))) → ∀ {cs : List V} {bs : List Nat}, listAt σ ks cs bs → (∀ b ∈ bs, s b = none) → frzL σ s cs (flat (exsV ks)) := by
 intro ks
 induction ks with
 | nil => intro _ cs bs h _; rw [listAt_nil] at h; rw [h.1]; trivial
 | cons e r ih =>
  intro he cs bs h hs
  rw [listAt_cons] at h
  obtain ⟨q, b1, b2, cs', rfl, rfl, h1, h2⟩ := h
  have hf : flat (exsV (e :: r)) = .int .i64 (exK e) :: .int .i64 (exN e) :: .isl false 3 (exsV (exL e)) :: flat (exsV r) := by
   show flat (exV e :: exsV r) = _
   rw [exV_K]; rfl
  rw [hf]
  exact ⟨.refl _, .refl _, he e (by simp) q b1 h1 (fun b hb => hs b (List.mem_append_left _ hb)), ih (fun x hx => he x (by simp [hx])) h2 (fun b hb => hs b (List.mem_append_right _ hb))⟩
theorem exsV_flatlen (ks : List Ex) : (flat (exsV ks)).length = ks.length * 3 := by
 rw [flat_length (es := 3) fun x hx => (exsV_ok ks x hx).1, exsV_len]
theorem kidsAt.frz {s : St} : ∀ (e : Ex) (q : V) (bs : List Nat), kidsAt σ e q bs → (∀ b ∈ bs, s b = none) → Frz σ s q (.isl false 3 (exsV (exL e))) := by
 refine Ex.ind fun k n ks ih q bs h hs => ?_
 rw [kidsAt_mk] at h
 show Frz σ s q (.isl false 3 (exsV ks))
 rcases h with ⟨rfl, ⟨es, rfl⟩, _⟩ | ⟨b, cap, cs, bs', rfl, hb, rfl, hl⟩
 ·exact frz_nil _ _
 ·have hL := listAt_lend ih hl fun d hd => hs d (by simp [hd])
  have hlen := hl.len
  refine .msl b 3 0 ks.length cap cs (exsV ks) hb (hs b (by simp)) (by omega) (exsV_len ks) (fun x hx => (exsV_ok ks x hx).1) (exsV_flatlen ks) (fun i x hi => flat_ones (fun x hm => (exsV_ok ks x hm).2) x (List.mem_of_getElem? hi)) (fun i x y hx hy => ?_)
  rw [Nat.zero_add] at hx
  exact frzL_get hL i y x hx hy
theorem kidsAt.lend {e : Ex} {q : V} {bs : List Nat} (h : kidsAt σ e q bs) : Frz σ emp (.agg [.int .i64 (exK e), .int .i64 (exN e), q]) (exV e) := by
 rw [exV_K]
 exact frz_agg (by exact ⟨.refl _, .refl _, kidsAt.frz e q bs h (fun _ _ => rfl), trivial⟩) (by simp [V.one])
theorem OwnL.grow {es : Nat} {xs : List V} {q : V} {s : St} (h : OwnL σ0 es xs q σ) (hs : ∀ b c, σ b = some c → s b = some c) : ∃ σ1, OwnL σ1 es xs q s ∧ (∀ b c, σ0 b = some c → σ1 b = some c) ∧ ∀ b, σ b = none → σ1 b = s b := by
 obtain ⟨h1, h2⟩ := h
 rcases h1 with ⟨hc, hl, rfl, es', rfl⟩ | ⟨b2, cap, hb, rfl, rfl, h4⟩
 ·exact ⟨s, ⟨.inl ⟨hc, hl, rfl, es', rfl⟩, h2⟩, hs, fun _ _ => rfl⟩
 ·have e : s b2 = some (flat xs) := hs _ _ (upd_same _ _ _)
  refine ⟨del s b2, ⟨.inr ⟨b2, cap, del_same _ _, rfl, (by rw [upd_del, upd_self _ e]), h4⟩, h2⟩, fun b c hc => ?_, fun b hb' => ?_⟩
  ·have hne : b ≠ b2 := fun e => by subst e; rw [hb] at hc; cases hc
   rw [del_ne _ hne]; exact hs _ _ (by rw [upd_ne _ _ hne]; exact hc)
  ·have hne : b ≠ b2 := fun e => by subst e; rw [upd_same] at hb'; cases hb'
   rw [del_ne _ hne]
end
section
attribute [local irreducible] SRun DS DRun
variable {Γ : St} {σ σ0 : St}
def setKN (k n : Int) : Ex → Ex | .mk _ _ ks => .mk k n ks
mutual
/-- The Kids below get numbers, from k on. -/
def numE : Ex → Int → Ex × Int
 | .mk kk n ks, k => (.mk kk n (numL ks k).1, (numL ks k).2)
def numL : List Ex → Int → List Ex × Int
 | [], k => ([], k)
 | e :: r, k => (setKN k (k + 1) (numE e (k + 2)).1 :: (numL r (numE e (k + 2)).2).1, (numL r (numE e (k + 2)).2).2)
end
theorem numE_mk {kk n k : Int} {ks : List Ex} : numE (.mk kk n ks) k = (.mk kk n (numL ks k).1, (numL ks k).2) := by rw [numE]
theorem numL_nil {k : Int} : numL [] k = ([], k) := by rw [numL]
theorem numL_cons {e : Ex} {r : List Ex} {k : Int} : numL (e :: r) k = (setKN k (k + 1) (numE e (k + 2)).1 :: (numL r (numE e (k + 2)).2).1, (numL r (numE e (k + 2)).2).2) := by rw [numL]
theorem setKN_parts (k n : Int) (e : Ex) : exK (setKN k n e) = k ∧ exN (setKN k n e) = n ∧ exL (setKN k n e) = exL e := by obtain ⟨a, b, c⟩ := e; exact ⟨rfl, rfl, rfl⟩
theorem numE_parts (e : Ex) (k : Int) : exK (numE e k).1 = exK e ∧ exN (numE e k).1 = exN e ∧ exL (numE e k).1 = (numL (exL e) k).1 ∧ (numE e k).2 = (numL (exL e) k).2 := by obtain ⟨a, b, c⟩ := e; rw [numE_mk]; exact ⟨rfl, rfl, rfl, rfl⟩
theorem numL_len : ∀ {ks : List Ex} {k : Int}, (numL ks k).1.length = ks.length := by
 intro ks
 induction ks with
 | nil => intro k; rw [numL_nil]
 | cons e r ih => intro k; rw [numL_cons]; simp only [List.length_cons, ih]
theorem numL_bound_of : ∀ {ks : List Ex}, (∀ e ∈ ks, ∀ k, k ≤ (numE e k).2 ∧ (numE e k).2 + 2 ≤ k + 2 * (sizeE e : Int)) → ∀ k, k ≤ (numL ks k).2 ∧ (numL ks k).2 ≤ k + 2 * (sizeL ks : Int) := by
 intro ks
 induction ks with
 | nil => intro _ k; rw [numL_nil]; simp [sizeL]
 | cons e r ih =>
  intro he k
  have h1 := he e (by simp) (k + 2)
  have h2 := ih (fun x hx => he x (by simp [hx])) (numE e (k + 2)).2
  rw [numL_cons]
  simp only [sizeL]
  omega
theorem numE_bound : ∀ (e : Ex) (k : Int), k ≤ (numE e k).2 ∧ (numE e k).2 + 2 ≤ k + 2 * (sizeE e : Int) := by
 refine Ex.ind fun kk n ks ih k => ?_
 have := numL_bound_of ih k
 rw [numE_mk]
 simp only [sizeE]
 omega
theorem numL_bound (ks : List Ex) (k : Int) : k ≤ (numL ks k).2 ∧ (numL ks k).2 ≤ k + 2 * (sizeL ks : Int) := numL_bound_of (fun e _ => numE_bound e) k
theorem numL_app : ∀ {xs : List Ex} {e : Ex} {k : Int}, numL (xs ++ [e]) k = ((numL xs k).1 ++ [setKN (numL xs k).2 ((numL xs k).2 + 1) (numE e ((numL xs k).2 + 2)).1], (numE e ((numL xs k).2 + 2)).2) := by
 intro xs
 induction xs with
 | nil => intro e k; rw [List.nil_append, numL_cons, numL_nil, numL_nil]; rfl
 | cons x r ih => intro e k; rw [List.cons_append, numL_cons, ih, numL_cons]; rfl
theorem kidsAt.relabel {e : Ex} {q : V} {bs : List Nat} {k n : Int} (h : kidsAt σ e q bs) : kidsAt σ (setKN k n e) q bs := by
 obtain ⟨a, b, c⟩ := e
 show kidsAt σ (.mk k n c) q bs
 rw [kidsAt_mk] at h ⊢; exact h
end
section
attribute [local irreducible] SRun DS DRun
variable {Γ : St} {σ σ0 : St}
theorem agg3_ok {k n : Int} {q : V} (h : q.one = true) : ∀ y ∈ [V.agg [.int .i64 k, .int .i64 n, q]], y.cells.length = 3 ∧ ∀ c ∈ y.cells, c.one = true := by
 intro y hy
 rw [List.mem_singleton.1 hy]
 refine ⟨rfl, fun c hc => ?_⟩
 simp only [V.cells, List.mem_cons, List.not_mem_nil, or_false] at hc
 rcases hc with rfl | rfl | rfl
 ·rfl
 ·rfl
 ·exact h
theorem flat_agg3 (xs : List V) (k n : Int) (q : V) : flat (xs ++ [V.agg [.int .i64 k, .int .i64 n, q]]) = flat xs ++ [.int .i64 k, .int .i64 n, q] := by simp [flat, V.cells]
theorem listAt_one {e : Ex} {q : V} {bs : List Nat} (h : kidsAt σ e q bs) : listAt σ [e] [.int .i64 (exK e), .int .i64 (exN e), q] bs := by
 rw [listAt_cons]
 exact ⟨q, bs, [], [], rfl, by simp, h, by rw [listAt_nil]; exact ⟨rfl, rfl⟩⟩
end
section
attribute [local irreducible] SRun DS DRun
variable {Γ : St} {σ σ0 : St}
theorem set_at {A B : List V} {x y : V} {m : Nat} (h : A.length = m) : (A ++ x :: B).set m y = A ++ y :: B := by
 rw [List.set_append_right _ _ (by omega), h, Nat.sub_self, List.set_cons_zero]
theorem set_at1 {A B : List V} {x y z : V} {m : Nat} (h : A.length = m) : (A ++ x :: y :: B).set (m + 1) z = A ++ x :: z :: B := by
 rw [List.set_append_right _ _ (by omega), show m + 1 - A.length = 1 by omega, List.set_cons_succ, List.set_cons_zero]
theorem get_at2 {A B : List V} {x y z : V} {m : Nat} (h : A.length = m) : (A ++ x :: y :: z :: B)[m + 2]? = some z := by
 rw [List.getElem?_append_right (by omega), show m + 2 - A.length = 2 by omega]; rfl
set_option maxHeartbeats 2000000 in
theorem markExS_at : ∀ e, ∀ {Γ σ : St} {q : V} {bs : List Nat} {k : Int}, kidsAt σ e q bs → bs.Nodup → sizeE e ≤ 2000000 → 0 ≤ k → k + 2 * (sizeE e : Int) ≤ 2000000000 → ACalls Try.prog Γ 24 [q, .int .i64 k] σ fun r s => r = .int .i64 (numE e k).2 ∧ kidsAt s (numE e k).1 q bs ∧ ∀ d, d ∉ bs → s d = σ d := by
 refine Ex.ind fun kk n ks ih Γ σ q bs k h hnd hsz hk0 hk1 => ?_
 have hE := numE_mk (kk := kk) (n := n) (k := k) (ks := ks)
 rw [hE]
 have hlen := sizeL_len ks
 simp only [sizeE] at hsz hk1
 rw [kidsAt_mk] at h
 rcases h with ⟨rfl, ⟨es, rfl⟩, rfl⟩ | ⟨b, cap, cs, bs', rfl, hb, rfl, hl⟩
 ·refine acalls_W c24_ok rfl ?_
  simp (disch := omega) only [c24, go_sem]
  refine W_loopC (α := Unit) (fun _ => True) (fun _ => [(0, .isl true es []), (1, .int .i64 k), (5, .int .i64 0)]) (fun _ => σ) (fun _ => 0) () trivial (by simp (disch := omega) only [subT, Int.natCast_add, Int.cast_ofNat_Int, go_sem] <;> (repeat' apply And.intro) <;> first | rfl | (congr 1; omega) | assumption) rfl ?_
  intro _ _ _
  simp (disch := omega) only [List.length_nil, go_sem]
  exact W_retR c24_ok rfl ⟨by rw [numL_nil]; rfl, by rw [kidsAt_mk, numL_nil]; exact .inl ⟨rfl, ⟨_, rfl⟩, rfl⟩, by intros; rfl⟩
 ·have hnd1 := (List.nodup_cons.1 hnd).1
  have hnd2 := (List.nodup_cons.1 hnd).2
  refine acalls_W c24_ok rfl ?_
  simp (disch := omega) only [c24, go_sem]
  refine W_loopC (α := Nat × List V × List V × List Nat × List Nat × St) (fun p => p.1 ≤ ks.length ∧ p.2.2.2.2.2 b = some (p.2.1 ++ p.2.2.1) ∧ p.2.1.length = p.1 * 3 ∧ listAt p.2.2.2.2.2 (numL (ks.take p.1) k).1 p.2.1 p.2.2.2.1 ∧ listAt p.2.2.2.2.2 (ks.drop p.1) p.2.2.1 p.2.2.2.2.1 ∧ bs' = p.2.2.2.1 ++ p.2.2.2.2.1 ∧ ∀ d, d ∉ b :: bs' → p.2.2.2.2.2 d = σ d)
   (fun p => [(0, .msl b 3 0 ks.length cap), (1, .int .i64 (numL (ks.take p.1) k).2), (5, .int .i64 (p.1 : Nat))]) (fun p => p.2.2.2.2.2) (fun p => ks.length - p.1) (0, [], cs, [], bs', σ) ⟨by simp, hb, rfl, by rw [List.take_zero, numL_nil, listAt_nil]; exact ⟨rfl, rfl⟩, hl, rfl, fun _ _ => rfl⟩ (by simp (disch := omega) only [subT, Int.natCast_add, Int.cast_ofNat_Int, List.take_zero, numL_nil, go_sem] <;> (repeat' apply And.intro) <;> first | rfl | (congr 1; omega) | assumption) rfl ?_
  rintro ⟨i, cD, cR, bD, bR, s⟩ ⟨hi, hsb, hcl, hlD, hlR, hbs, hout⟩ ih2
  dsimp only at hi hsb hcl hlD hlR hbs hout
  have hkb := numL_bound (ks.take i) k
  have hst : sizeL (ks.take i) ≤ sizeL ks := by
   have : sizeL ks = sizeL (ks.take i) + sizeL (ks.drop i) := by
    have h := List.take_append_drop i ks
    conv => lhs; rw [← h]
    rw [sizeL_sum, sizeL_sum, sizeL_sum, List.map_append, List.sum_append]
   omega
  simp (disch := omega) only [go_sem]
  first | refine iteW_dec (fun hq => ?_) (fun hq => ?_) | refine iteW_of (fun hq => ?_) (fun hq => ?_)
  ·have hlt : i < ks.length := by omega
   have hdr := drop_cons (default : Ex) hlt
   have htk := take_succ (default : Ex) hlt
   have hem := getD_mem default hlt
   have hes := sizeL_mem hem
   have hse : sizeL (ks.take i) + sizeE (ks.getD i default) ≤ sizeL ks := by
    have : sizeL ks = sizeL (ks.take i) + sizeL (ks.drop i) := by
     have h := List.take_append_drop i ks
     conv => lhs; rw [← h]
     rw [sizeL_sum, sizeL_sum, sizeL_sum, List.map_append, List.sum_append]
    rw [hdr] at this
    simp only [sizeL] at this
    omega
   generalize ks.getD i default = e at *
   rw [hdr, listAt_cons] at hlR
   obtain ⟨q', b1, b2, cs', rfl, rfl, hk, hlR'⟩ := hlR
   have hnum := numL_app (xs := ks.take i) (e := e) (k := k)
   rw [← htk] at hnum
   generalize hkk : numL (ks.take i) k = NK at *
   obtain ⟨nks, k2⟩ := NK
   dsimp only at hnum hkb hlD
   have hs1 : (cD ++ V.int .i64 (exK e) :: V.int .i64 (exN e) :: q' :: cs').set (i * 3) (.int .i64 k2) = cD ++ V.int .i64 k2 :: V.int .i64 (exN e) :: q' :: cs' := set_at hcl
   have hs2 : (cD ++ V.int .i64 k2 :: V.int .i64 (exN e) :: q' :: cs').set (i * 3 + 1) (.int .i64 (k2 + 1)) = cD ++ V.int .i64 k2 :: V.int .i64 (k2 + 1) :: q' :: cs' := set_at1 hcl
   have hs3 : (cD ++ V.int .i64 k2 :: V.int .i64 (k2 + 1) :: q' :: cs')[i * 3 + 2]? = some q' := get_at2 hcl
   have ek2 : k2 + 1 + 1 = k2 + 2 := by omega
   simp (disch := omega) only [hsb, hs1, hs2, hs3, List.length_append, List.length_cons, hcl, ek2, go_sem]
   have hndB := hnd2
   rw [hbs] at hndB
   have hbn : ∀ d ∈ bD ++ (b1 ++ b2), d ≠ b := fun d hd e => hnd1 (by rw [hbs, ← e]; exact hd)
   have hnd2' := List.nodup_append.1 hndB
   have hnd3 := List.nodup_append.1 hnd2'.2.1
   refine SRun.callQ (ih e hem (kidsAt.more e q' b1 hk fun d hd c hc => by rw [upd_ne _ _ (hbn d (by simp [hd]))]; exact hc) hnd3.1 (by omega) (by omega) (by omega)) ⟨[], rfl, rfl⟩ rfl ?_
   rintro r s2 ⟨rfl, hk2, ho2⟩
   have heb := numE_bound e (k2 + 2)
   simp (disch := omega) only [go_sem]
   have hb2 : s2 b = some (cD ++ V.int .i64 k2 :: V.int .i64 (k2 + 1) :: q' :: cs') := by
    rw [ho2 b (fun h => hbn b (by simp [h]) rfl), upd_same]
   have hsame : ∀ d, d ≠ b → d ∉ b1 → s2 d = s d := fun d h1 h2 => by rw [ho2 d h2, upd_ne _ _ h1]
   refine ih2 (i + 1, cD ++ [.int .i64 k2, .int .i64 (k2 + 1), q'], cs', bD ++ b1, b2, s2) _ _ ⟨by simp only; omega, by simp only; rw [hb2, List.append_assoc]; rfl, by simp only [List.length_append, List.length_cons, List.length_nil]; omega, ?_, ?_, by simp only; rw [List.append_assoc]; exact hbs, fun d hd => ?_⟩ (by simp only; omega) (by simp (disch := omega) only [subT, Int.natCast_add, Int.cast_ofNat_Int, hnum, go_sem] <;> (repeat' apply And.intro) <;> first | rfl | (congr 1; omega) | assumption) rfl
   ·simp only [hnum]
    have hp := setKN_parts k2 (k2 + 1) (numE e (k2 + 2)).1
    have h1 := listAt_one (kidsAt.relabel (k := k2) (n := k2 + 1) hk2)
    rw [hp.1, hp.2.1] at h1
    refine listAt_app (hlD.more fun d hd c hc => ?_) h1
    rw [hsame d (hbn d (by simp [hd])) (fun h => hnd2'.2.2 d hd d (by simp [h]) rfl)]; exact hc
   ·simp only
    refine hlR'.more fun d hd c hc => ?_
    rw [hsame d (hbn d (by simp [hd])) (fun h => hnd3.2.2 d h d hd rfl)]; exact hc
   ·simp only [List.mem_cons, not_or] at hd
    show s2 d = σ d
    rw [hsame d hd.1 (fun h => hd.2 (by rw [hbs]; simp [h]))]
    exact hout d (by simp only [List.mem_cons, not_or]; exact hd)
  ·have hil : i = ks.length := by omega
   subst hil
   rw [List.take_length] at hlD
   rw [List.drop_length, listAt_nil] at hlR
   obtain ⟨rfl, rfl⟩ := hlR
   rw [List.append_nil] at hsb hbs
   subst hbs
   rw [List.take_length]
   simp (disch := omega) only [go_sem]
   refine W_retR c24_ok rfl ⟨rfl, ?_, hout⟩
   rw [kidsAt_mk]
   exact .inr ⟨b, cap, cD, bs', by rw [numL_len], hsb, rfl, hlD⟩
theorem eqExS_of {ex ex2 : Bool} {ks : List Ex} (hl : ks.length ≤ 2000000) (he : ∀ e ∈ ks, ∀ Γ σ, Ret Try.prog Γ 9 [exV e, exV e] σ (.bool true) σ) : Ret Try.prog Γ 23 [.isl ex 3 (exsV ks), .isl ex2 3 (exsV ks)] σ (.bool true) σ := by
 have hel := exsV_len ks
 have c1 : (decide ¬ ((ks.length : Nat) : Int) = (ks.length : Nat)) = false := by simp
 refine ret_of c23_ok rfl ?_
 simp (disch := omega) only [c23, hel, c1, go_sem]
 refine W_loopC (α := Nat) (fun i => i ≤ ks.length) (fun i => [(0, .isl ex 3 (exsV ks)), (1, .isl ex2 3 (exsV ks)), (5, .int .i64 (i : Nat))]) (fun _ => σ) (fun i => ks.length - i) 0 (by omega) (by simp (disch := omega) only [subT, Int.natCast_add, Int.cast_ofNat_Int, go_sem] <;> (repeat' apply And.intro) <;> first | rfl | (congr 1; omega) | assumption) rfl ?_
 intro i hi ih
 simp (disch := omega) only [hel, go_sem]
 first | refine iteW_dec (fun hq => ?_) (fun hq => ?_) | refine iteW_of (fun hq => ?_) (fun hq => ?_)
 ·have hem := getD_mem default (by omega : i < ks.length)
  simp (disch := omega) only [go_sem]
  refine W_drawW ?_
  simp (disch := omega) only [go_sem]
  generalize ks.getD i default = e at *
  refine DRun.callQ (he e hem _ _) ⟨[], rfl, rfl⟩ ?_
  rintro r s ⟨rfl, hs⟩
  obtain rfl := hs.symm
  simp (disch := omega) only [go_sem]
  exact ih (i + 1) _ _ (by omega) (by omega) (by simp (disch := omega) only [subT, Int.natCast_add, Int.cast_ofNat_Int, go_sem] <;> (repeat' apply And.intro) <;> first | rfl | (congr 1; omega) | assumption) rfl
 ·simp (disch := omega) only [go_sem]
  exact W_retR c23_ok rfl ⟨rfl, rfl⟩
theorem eqEx_ok : ∀ e, sizeE e ≤ 2000000 → ∀ {Γ σ : St}, Ret Try.prog Γ 9 [exV e, exV e] σ (.bool true) σ := by
 refine Ex.ind fun k n ks ih hsz Γ σ => ?_
 have hlen := sizeL_len ks
 simp only [sizeE] at hsz
 have c1 : (decide ¬ k = k) = false := by simp
 have c2 : (decide ¬ n = n) = false := by simp
 refine ret_of c9_ok rfl ?_
 simp (disch := omega) only [c9, exV_mk, go_sem]
 refine SRun.boxR (by simp [ev, look, V.cells, V.one]) ?_
 intro b2 hb2
 have g2 := upd_same σ b2 [.int .i64 k, .int .i64 n, .isl false 3 (exsV ks)]
 have hσ := le_upd (cs := [.int .i64 k, .int .i64 n, .isl false 3 (exsV ks)]) hb2
 simp (disch := omega) only [go_sem]
 generalize upd σ b2 [.int .i64 k, .int .i64 n, .isl false 3 (exsV ks)] = s1 at *
 refine SRun.boxR (by simp [ev, look, V.cells, V.one]) ?_
 intro b3 hb3
 have g23 := le_upd (cs := [.int .i64 k, .int .i64 n, .isl false 3 (exsV ks)]) hb3 _ _ g2
 have g3 := upd_same s1 b3 [.int .i64 k, .int .i64 n, .isl false 3 (exsV ks)]
 have hσ2 : ∀ d x, σ d = some x → upd s1 b3 [.int .i64 k, .int .i64 n, .isl false 3 (exsV ks)] d = some x := fun d x h => le_upd hb3 _ _ (hσ d x h)
 simp (disch := omega) only [g23, c1, c2, go_sem]
 refine SRun.callR (eqExS_of (by omega) fun e he Γ σ => ih e he (by have := sizeL_mem he; omega)) ⟨[], rfl, rfl⟩ rfl ?_
 simp (disch := omega) only [go_sem]
 exact W_retC c9_ok rfl (Conv.drop _ hσ2) ⟨rfl, rfl⟩
theorem markEx_at {e : Ex} {q : V} {bs : List Nat} {k : Int} (h : kidsAt σ e q bs) (hnd : bs.Nodup) (hsz : sizeE e ≤ 2000000) (hk0 : 0 ≤ k) (hk1 : k + 2 * (sizeE e : Int) ≤ 2000000000) : ACalls Try.prog Γ 10 [.agg [.int .i64 (exK e), .int .i64 (exN e), q], .int .i64 k] σ fun r s => r = .int .i64 (numE e k).2 ∧ kidsAt s (numE e k).1 q bs ∧ ∀ d, d ∉ bs → σ d ≠ none → s d = σ d := by
 have hq := h.one
 refine acalls_W c10_ok rfl ?_
 simp (disch := omega) only [c10, go_sem]
 refine SRun.boxR (by simp [ev, look, V.cells, V.one]; exact hq.1) ?_
 intro b2 hb2
 have hn : ∀ d ∈ bs, d ≠ b2 := fun d hd e => by subst e; exact kidsAt.has e q bs h d hd hb2
 have h2 := kidsAt.more (s := upd σ b2 [.int .i64 (exK e), .int .i64 (exN e), q]) e q bs h fun d hd c hc => by rw [upd_ne _ _ (hn d hd)]; exact hc
 simp (disch := omega) only [go_sem]
 refine SRun.callQ (markExS_at e h2 hnd hsz hk0 hk1) ⟨[], rfl, rfl⟩ rfl ?_
 rintro r s ⟨rfl, hk, ho⟩
 simp (disch := omega) only [go_sem]
 refine W_retR c10_ok rfl ⟨rfl, hk, fun d hd hs => ?_⟩
 rw [ho d hd, upd_ne _ _ (fun e => by subst e; exact hs hb2)]
end
end Go.Proofs.Ytdenfjbhkdhlkaa.Lg
