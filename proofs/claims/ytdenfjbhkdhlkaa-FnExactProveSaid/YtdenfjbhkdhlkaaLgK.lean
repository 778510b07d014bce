/- The own logic: what is owned is given up where it stands: the cells that stay owned are told anew. It holds for every program. -/
import Derived.Test.YtdenfjbhkdhlkaaLgO
set_option linter.unusedSimpArgs false
set_option linter.unusedVariables false
namespace Go.Proofs.Ytdenfjbhkdhlkaa.Lg
open Go
theorem Frz.rep2 {σ σ' τ : St} {w : World} (hs : Sim (cup σ τ) w) (hd : disj σ τ) (hl : ∀ b, σ b = none → σ' b = none) {x y : V} (h : Frz σ σ' x y) : ∀ {v : Value}, Rep w (own (cup σ τ)) x v → Rep w (own (cup σ' τ)) y v := by
 have ho : ∀ b, own (cup σ' τ) b → own (cup σ τ) b := by
  intro b hb
  unfold own cup at *
  cases h1 : σ' b with
  | none => rw [h1] at hb; cases h2 : σ b <;> simp_all
  | some cs =>
   cases h2 : σ b with
   | none => rw [hl b h2] at h1; cases h1
   | some c => simp
 induction h with
 | refl v => intro u hr; exact hr.less ho
 | isl ex es xs =>
  intro u hr
  have hr := hr.less ho
  cases xs with
  | nil => obtain ⟨a, c, rfl, _, _⟩ := hr.isl_len; exact .isl0 _ _ _ _ (fun h => by cases h)
  | cons x xs =>
   obtain ⟨b, off, c, rfl, h1, h2, h3, h4, h5, h6⟩ := hr.isl_mem (by simp)
   exact h6.isl h4 h5 h1 (fun h => by cases h) h3
 | isl0 ex ex2 es es' hx =>
  intro u hr
  obtain ⟨a, c, rfl, _, h2⟩ := hr.isl_len
  exact .isl0 _ _ _ _ (fun h => by simpa using h2 (hx h))
 | msl b es off len cap cs xs hb hb' hlen hx he hfl hone _ ih =>
  intro u hr
  obtain ⟨arr, e, fz, rfl, h1, h2, h3⟩ := rep_msl_inv hr
  have hm := (hs.mem (cup_of_some (τ := τ) hb))
  have hno : ¬ own (cup σ' τ) b := by
   unfold own cup; rw [hb']; simp [hd.other hb]
  subst hx
  have hm2 : Mem w (own (cup σ' τ)) (flat xs) b off := by
   intro i x hxi
   have hi : i < (flat xs).length := (List.getElem?_eq_some_iff.1 hxi).1
   have hlt : off + i < cs.length := by omega
   have hg : cs[off + i]? = some cs[off + i] := by simp [hlt]
   obtain ⟨_, v, g2, g3⟩ := hm (off + i) _ hg
   exact ⟨hone i x hxi, v, by simpa using g2, ih i x _ hg hxi g3⟩
  exact hm2.isl (lt_of_get h1) hno h3 (fun h => by cases h) he
 | agg cs ds hl2 hone _ ih =>
  intro u hr
  obtain ⟨vs, rfl, h1, h2, h3⟩ := rep_agg_inv hr
  refine .agg ds vs (by omega) hone (fun i x hx => ?_)
  have hi : i < cs.length := by have := (List.getElem?_eq_some_iff.1 hx).1; omega
  have hg : cs[i]? = some cs[i] := by simp [hi]
  exact ih i x _ hg hx (h3 i _ hg)
 | tup cs ds hl2 _ ih =>
  intro u hr
  cases hr with
  | tup _ vs h1 h3 =>
   refine .tup ds vs (by omega) (fun i x hx => ?_)
   have hi : i < cs.length := by have := (List.getElem?_eq_some_iff.1 hx).1; omega
   have hg : cs[i]? = some cs[i] := by simp [hi]
   exact ih i x _ hg hx (h3 i _ hg)
/-- The cells that stay owned are told anew. -/
def frzIn (σ σ' : St) : Prop := ∀ b cs', σ' b = some cs' → ∃ cs, σ b = some cs ∧ frzL σ σ' cs cs' ∧ (cs = cs' ∨ ∀ c ∈ cs', c.one = true)
theorem frzIn.none {σ σ' : St} (h : frzIn σ σ') : ∀ b, σ b = none → σ' b = none := by
 intro b hb
 cases h1 : σ' b with
 | none => rfl
 | some c => obtain ⟨cs, h2, _⟩ := h b c h1; rw [hb] at h2; cases h2
theorem frzL_refl {σ σ' : St} : ∀ (cs : List V), frzL σ σ' cs cs := by
 intro cs
 induction cs with
 | nil => trivial
 | cons x r ih => exact ⟨.refl _, ih⟩
theorem frzIn.sim {σ σ' τ : St} {w : World} (h : frzIn σ σ') (hs : Sim (cup σ τ) w) (hd : disj σ τ) : Sim (cup σ' τ) w := by
 have hn := h.none
 have ho : ∀ b, own (cup σ' τ) b → own (cup σ τ) b := by
  intro b hb
  unfold own cup at *
  cases h1 : σ' b with
  | none => rw [h1] at hb; cases h2 : σ b <;> simp_all
  | some cs =>
   cases h2 : σ b with
   | none => rw [hn b h2] at h1; cases h1
   | some c => simp
 intro b cs' hb
 cases h1 : σ' b with
 | none =>
  have hb2 : τ b = some cs' := by simpa [cup, h1] using hb
  have hb3 : cup σ τ b = some cs' := by simp [cup, hd.symm_none hb2, hb2]
  obtain ⟨arr, e, fz, g1, g2, g3, g4⟩ := hs b cs' hb3
  exact ⟨arr, e, fz, g1, g2, g3, fun i x hx => ⟨(g4 i x hx).1, (g4 i x hx).2.less ho⟩⟩
 | some c =>
  have hc : c = cs' := by simpa [cup, h1] using hb
  subst hc
  obtain ⟨cs, h2, h3, h4⟩ := h b c h1
  have hb3 : cup σ τ b = some cs := by simp [cup, h2]
  obtain ⟨arr, e, fz, g1, g2, g3, g4⟩ := hs b cs hb3
  have hlen := frzL_len h3
  refine ⟨arr, e, fz, g1, g2, by omega, fun i x hx => ⟨h4.elim (fun e => by subst e; exact (g4 i x hx).1) (fun h4 => h4 x (List.mem_of_getElem? hx)), ?_⟩⟩
  have hi : i < cs.length := by have := (List.getElem?_eq_some_iff.1 hx).1; omega
  have hg : cs[i]? = some cs[i] := by simp [hi]
  exact Frz.rep2 hs hd hn (frzL_get h3 i _ x hg hx) (g4 i _ hg).2
section
variable {P : Program} {Γ : St} {f : FuncId} {n : Nat} {Q : V → St → Prop} {k : List It} {T : Ts} {σ σ0 : St} {l : List GI}
theorem SRun.freezeIn {T' : Ts} {σ' : St} (hin : frzIn σ σ') (hT : frzT σ σ' T' T) (h : SRun P Γ f n k T' σ' Q) : SRun P Γ f n k T σ Q := by
 intro todo hr τ w a cs hd hs hp
 have h1 := hp.dj
 have hn := hin.none
 have hdj : disj σ' τ := by
  intro m
  rcases h1 m with h2 | h2
  ·exact .inl (hn m h2)
  ·exact .inr h2
 have hown : ∀ b, own (cup σ' τ) b → own (cup σ τ) b := by
  intro b hb
  unfold own cup at *
  cases h1 : σ' b with
  | none => rw [h1] at hb; cases h2 : σ b <;> simp_all
  | some cs =>
   cases h2 : σ b with
   | none => rw [hn b h2] at h1; cases h1
   | some c => simp
 obtain ⟨r, v, w', fr, s, g1, g2, g3, g4, p1, p2, p3, p4⟩ := h todo hr τ w a cs hd hs ⟨hdj, hin.sim hp.sim h1, hp.glob.keep ((Keep.refl w _).less hown), fun m => by
  rcases frzT_look hT m with he | hf
  ·rw [he]; exact .undef _
  ·exact hf.rep2 hp.sim h1 hn (hp.kn m)⟩
 exact ⟨r, v, w', fr, s, g1, g2, g3, g4, p1, p2, p3, p4.size, fun b hb ho => p4.same b hb fun h => ho (hown b h), p4.shape, fun b hb => (p4.own b hb).imp (hown b) id, p4.io⟩
theorem W_freezeIn {T' : Ts} {σ' : St} {c : C} (hin : frzIn σ σ') (hT : frzT σ σ' T' T) (h : W P Γ f n Q (.inL c :: k) T' σ') : W P Γ f n Q (.inL c :: k) T σ := by
 rw [W_inL] at *; exact SRun.freezeIn hin hT h
/-- Both branches lead to the same place: what is known there is told. -/
theorem iteW_join {v : V} {x y : C} (R : Ts → St → Prop) (h : ∀ k', (∀ T' s', R T' s' → W P Γ f n Q k' T' s') → iteW P Γ f n Q v x y k' T σ) (hk : ∀ T' s', R T' s' → W P Γ f n Q k T' s') : iteW P Γ f n Q v x y k T σ := h k hk
/-- A row that was made is given up, where one cell of a block points to it. -/
theorem ownL_frzIn {es : Nat} {xs : List V} {r : V} {b : Nat} {cs cs' : List V} (h : OwnL (upd σ0 b cs) es xs r σ) (h1 : ∀ c ∈ cs', c.one = true)
  (hf : Frz σ (upd σ0 b cs') r (.isl false es xs) → frzL σ (upd σ0 b cs') cs cs') : frzIn σ (upd σ0 b cs') := by
 have hfz : Frz σ (upd σ0 b cs') r (.isl false es xs) := h.frz (fun _ _ => rfl) fun d hd => by rw [upd_none] at hd ⊢; exact hd
 intro d c hd
 by_cases e : d = b
 ·subst e
  rw [upd_same] at hd
  obtain rfl := Option.some.inj hd
  exact ⟨cs, h.get (upd_same _ _ _), hf hfz, .inr h1⟩
 ·rw [upd_ne _ _ e] at hd
  exact ⟨c, h.get (by rw [upd_ne _ _ e]; exact hd), frzL_refl _, .inl rfl⟩
/-- A row that was made inside a row that is made is given up. -/
theorem ownL_settle {es b cap : Nat} {xs ys : List V} {q : V} (hb : σ0 b = none) (hy : ∀ y ∈ ys, y.cells.length = es ∧ ∀ c ∈ y.cells, c.one = true) (h : OwnL (Lg.upd σ0 b (flat ys)) 1 (xs ++ [.msl b es 0 ys.length cap]) q σ) : ∃ σ', frzIn σ σ' ∧ OwnL σ0 1 (xs ++ [.isl false es ys]) q σ' := by
 obtain ⟨bq, cq, rfl, g1, g2, g3, rfl⟩ := h.at (by simp)
 have n1 := upd_none.1 g3
 have hbq : b ≠ bq := n1.1.symm
 have hfl : ∀ v : V, v.cells = [v] → flat (xs ++ [v]) = flat xs ++ [v] := fun v hv => by simp [flat, List.flatMap_append, hv]
 have e1 := hfl (.msl b es 0 ys.length cap) rfl
 have e2 := hfl (.isl false es ys) rfl
 have hx := h.2
 have hys : (flat ys).length = ys.length * es := flat_length fun x hm => (hy x hm).1
 refine ⟨Lg.upd σ0 bq (flat (xs ++ [.isl false es ys])), fun d c hd => ?_, .inr ⟨bq, cq, n1.2, by simp, rfl, ?_, by simpa using g2⟩, fun x hm => ?_⟩
 ·by_cases e : d = bq
  ·subst e
   rw [upd_same] at hd
   obtain rfl := Option.some.inj hd
   refine ⟨_, upd_same _ _ _, ?_, .inr ?_⟩
   ·rw [e1, e2]
    have : ∀ (l : List V) (a b : V) {s s' : St}, Frz s s' a b → frzL s s' (l ++ [a]) (l ++ [b]) := by
     intro l a b s s' hab
     induction l with
     | nil => exact ⟨hab, trivial⟩
     | cons x r ih => exact ⟨.refl _, ih⟩
    refine this _ _ _ (.msl b es 0 ys.length cap (flat ys) ys (by rw [upd_ne _ _ hbq, upd_same]) (by rw [upd_ne _ _ hbq]; exact hb) (by omega) rfl (fun x hm => (hy x hm).1) hys (fun i x hi => flat_ones (fun x hm => (hy x hm).2) x (List.mem_of_getElem? hi)) (fun i x y hy' hx' => ?_))
    rw [Nat.zero_add] at hy'
    rw [hy'] at hx'; obtain rfl := Option.some.inj hx'; exact .refl _
   ·intro c hc
    rw [e2, List.mem_append, List.mem_singleton] at hc
    rcases hc with hc | rfl
    ·exact flat_ones (fun x hm => (hx x (List.mem_append_left _ hm)).2) c hc
    ·rfl
  ·rw [upd_ne _ _ e] at hd
   have hdb : d ≠ b := fun e => by subst e; rw [hb] at hd; cases hd
   exact ⟨c, by rw [upd_ne _ _ e, upd_ne _ _ hdb]; exact hd, frzL_refl _, .inl rfl⟩
 ·have hk : (flat xs).length = xs.length * 1 := flat_length fun x hm => (hx x (List.mem_append_left _ hm)).1
  rw [e2]; simp only [List.length_append, List.length_singleton] at hk ⊢; omega
 ·rcases List.mem_append.1 hm with hm | hm
  ·exact hx x (List.mem_append_left _ hm)
  ·rw [List.mem_singleton.1 hm]; simp [V.cells, V.one]
end
theorem frzT_of_sub {σ σ' : St} : ∀ {τ T : Ts}, subT τ T → frzT σ σ' τ T := by
 intro τ
 induction τ with
 | nil => intro T _; trivial
 | cons p r ih => intro T h; exact ⟨by rw [h.1]; exact .refl _, ih h.2⟩
end Go.Proofs.Ytdenfjbhkdhlkaa.Lg
