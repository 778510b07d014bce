/- What is drawn for the laws of networks. -/
import Derived.Test.YtabelcohkpmpnaaWo
set_option linter.unusedSimpArgs false
set_option linter.unusedVariables false
namespace Go.Proofs.Ytabelcohkpmpnaa.Lg
open Go
attribute [local irreducible] SRun DS DRun
variable {Γ : St} {σ σ0 : St}
theorem NetOf_ok {ex : Bool} {code : List UInt8} (hl : code.length ≤ 140737488355328) : ACalls Try.prog Γ 8 [codeV ex code] σ fun r σ' => ∃ n, netB n = true ∧ NetLen n ∧ n.origins.length ≤ 4 ∧ r = netV n ∧ σ' = σ := by
  refine acalls_W c8_ok rfl ?_
  simp (disch := omega) only [c8, go_sem, ↓if_pos, ne_eq, ↓reduceIte]
  refine SRun.allocR ?_
  intro b2 hb2
  simp (disch := omega) only [go_sem, ↓if_pos, ne_eq, ↓reduceIte]
  refine SRun.callQ (source_ok hl) ⟨[], rfl, rfl⟩ rfl ?_
  rintro r σ1 ⟨b, s, hb, hs1, hs2, rfl, rfl⟩
  have nb := upd_none.1 hb
  simp (disch := omega) only [go_sem, ↓if_pos, ne_eq, ↓reduceIte]
  refine SRun.callQ (net_ok (upd_same _ b (srcC ex code 0 s)) ⟨hs1, hs2⟩) ⟨[], rfl, rfl⟩ rfl ?_
  rintro r σ3 ⟨n, a3, s3, q1, q2, q3, q4, q5, q6, q7, rfl, rfl⟩
  rw [upd_upd]
  have g2 : ∀ c, upd (upd σ b2 [V.isl true 0 [], V.isl true 0 [], V.isl true 0 [], V.isl true 0 [], V.isl true 0 [], V.isl true 0 []]) b c b2 = some [V.isl true 0 [], V.isl true 0 [], V.isl true 0 [], V.isl true 0 [], V.isl true 0 [], V.isl true 0 []] := fun c => by rw [upd_ne _ _ nb.1.symm, upd_same]
  have hne := net_one n
  have hnc : netV n = .agg (netC n) := rfl
  have hlen2 : (netC n).length = 6 := rfl
  have hone : (∀ c, c ∈ netC n → c.one = true) = True := eq_true hne
  have hsets : sets [V.isl true 0 [], V.isl true 0 [], V.isl true 0 [], V.isl true 0 [], V.isl true 0 [], V.isl true 0 []] 0 (netC n) = netC n := rfl
  rw [hnc]
  simp (disch := omega) only [g2, hlen2, hone, hsets, go_sem, ↓if_pos, ne_eq, ↓reduceIte]
  refine W_retC c8_ok (r := .agg (netC n)) (σ' := σ) (r' := netV n) (resV_cellA rfl (upd_same _ _ _) rfl) (Conv.drop _ fun c x hc => ?_) ⟨n, q1, q2, q3, rfl, rfl⟩
  have hc2 : c ≠ b2 := fun e => by subst e; rw [hb2] at hc; cases hc
  have hcb : c ≠ b := fun e => by subst e; rw [nb.2] at hc; cases hc
  rw [upd_ne _ _ hc2, upd_ne _ _ hcb, upd_ne _ _ hc2]; exact hc
theorem bools_app (xs : List Bool) (x : Bool) : bools xs ++ [.bool x] = bools (xs ++ [x]) := by simp [bools]
theorem bool1_ok (x : Bool) : ∀ y ∈ [V.bool x], y.cells.length = 1 ∧ ∀ c ∈ y.cells, c.one = true := by
  intro y hy; rw [List.mem_singleton.1 hy]; simp [V.cells, V.one]
theorem env_ok {b : Nat} {n : Net} {ex : Bool} {code : List UInt8} {s : Int} (hb : σ b = some (srcC ex code 0 s)) (hs : 0 ≤ s ∧ s < 2147483648) (hn : NetR n) :
    ACalls Try.prog Γ 48 [.ptr b 0, netV n] σ fun r σ' => ∃ env a' s', env.length = n.externals.length ∧ (env.all fun x => inB x 0 2) = true ∧ r = .isl false 1 (ints env) ∧ σ' = upd σ b (srcC ex code a' s') := by
  have x2 := hn.x2
  have e3 : (netC n)[3]? = some (.isl false 1 (ints n.externals)) := rfl
  refine acalls_W c48_ok rfl ?_
  simp (disch := omega) only [c48, netV, go_sem, ↓if_pos, ne_eq, ↓reduceIte]
  refine SRun.boxR (net_one n) ?_
  intro b3 hb3
  have e3' : b ≠ b3 := fun e => by subst e; rw [hb] at hb3; cases hb3
  have M3 : ∀ z, upd (upd σ b z) b3 (netC n) b3 = some (netC n) := fun z => upd_same _ _ _
  have Mb : ∀ z, upd (upd σ b z) b3 (netC n) b = some z := fun z => by rw [upd_ne _ _ e3', upd_same]
  have Mu : ∀ z z', upd (upd (upd σ b z) b3 (netC n)) b z' = upd (upd σ b z') b3 (netC n) := fun z z' => by rw [upd_comm _ e3'.symm, upd_upd]
  have h0 : upd σ b3 (netC n) = upd (upd σ b (srcC ex code 0 s)) b3 (netC n) := by rw [upd_self _ hb]
  simp (disch := omega) only [go_sem, ↓if_pos, ne_eq, ↓reduceIte]
  rw [h0]
  refine W_loopC (α := Nat × List Int × Int × Int × V × St) (fun p => p.1 ≤ n.externals.length ∧ p.2.1.length = p.1 ∧ (p.2.1.all fun x => inB x 0 2) = true ∧ (0 ≤ p.2.2.1 ∧ p.2.2.1 ≤ 3 * p.1) ∧ (0 ≤ p.2.2.2.1 ∧ p.2.2.2.1 < 2147483648) ∧ OwnL (upd (upd σ b (srcC ex code p.2.2.1 p.2.2.2.1)) b3 (netC n)) 1 (ints p.2.1) p.2.2.2.2.1 p.2.2.2.2.2) (fun p => [(0, .ptr b 0), (3, .ptr b3 0), (5, p.2.2.2.2.1), (6, .int .i64 (p.1 : Nat))]) (fun p => p.2.2.2.2.2) (fun p => n.externals.length - p.1) (0, [], 0, s, _, _) ⟨by simp, by simp, by simp, by simp, hs, OwnL.nil _ 1⟩ (by simp (disch := omega) only [subT, Int.natCast_add, Int.cast_ofNat_Int, go_sem, ↓if_pos, ne_eq, ↓reduceIte] <;> (repeat' apply And.intro) <;> first | rfl | (congr 1; omega) | assumption) rfl ?_
  rintro ⟨i, xs, a, s, q, σ1⟩ ⟨hi, hxl, hall, ha, hs, ho⟩ ih
  dsimp only at hi hxl hall ha hs ho
  have g3 := ho.get (M3 _)
  simp (disch := omega) only [g3, e3, go_sem, ↓if_pos, ne_eq, ↓reduceIte]
  first | refine iteW_dec (fun h1 => ?_) (fun h1 => ?_) | refine iteW_of (fun h1 => ?_) (fun h1 => ?_)
  · simp (disch := omega) only [go_sem, ↓if_pos, ne_eq, ↓reduceIte]
    refine SRun.callQ (next_ok (ho.get (Mb _)) (by omega) hs) ⟨[], rfl, rfl⟩ rfl ?_
    rintro r σ2 ⟨x, a2, s2, x1, _, x3, x4, x5, x6, x7, rfl, rfl⟩
    have hx := x3 (by omega)
    have ho2 := ho.upd (c' := srcC ex code a2 s2) (Mb _)
    rw [Mu] at ho2
    simp (disch := omega) only [go_sem, ↓if_pos, ne_eq, ↓reduceIte]
    refine SRun.appL ho2 rfl (ints1_ok x) (by simp only [ints_len, List.length_singleton]; omega) ?_
    intro q' σ3 ho3
    rw [ints_app] at ho3
    simp (disch := omega) only [go_sem, ↓if_pos, ne_eq, ↓reduceIte]
    exact ih (i + 1, xs ++ [x], a2, s2, q', σ3) _ _ ⟨by simp only; omega, by simp only [List.length_append, List.length_singleton]; omega, by simp only; rw [List.all_append, hall]; simp [inB]; omega, by simp only; omega, ⟨x6, x7⟩, ho3⟩ (by simp only; omega) (by simp (disch := omega) only [subT, Int.natCast_add, Int.cast_ofNat_Int, go_sem, ↓if_pos, ne_eq, ↓reduceIte] <;> (repeat' apply And.intro) <;> first | rfl | (congr 1; omega) | assumption) rfl
  · simp (disch := omega) only [go_sem, ↓if_pos, ne_eq, ↓reduceIte]
    refine W_retC c48_ok (r' := .isl false 1 (ints xs)) (σ' := upd σ b (srcC ex code a s)) rfl ⟨fun d x hd => ?_, ho.frz (fun _ _ => rfl) fun d hd => (upd_none.1 hd).2⟩ ⟨xs, a, s, by omega, hall, rfl, rfl⟩
    refine ho.get ?_
    have hd3 : d ≠ b3 := fun e => by
      subst e
      rw [upd_ne _ _ e3'.symm, hb3] at hd; cases hd
    rw [upd_ne _ _ hd3]; exact hd
theorem down_ok {b : Nat} {n : Net} {ex : Bool} {code : List UInt8} {s : Int} (hb : σ b = some (srcC ex code 0 s)) (hs : 0 ≤ s ∧ s < 2147483648) (hn : NetR n) :
    ACalls Try.prog Γ 49 [.ptr b 0, netV n] σ fun r σ' => ∃ down a' s', down.length = n.links.length ∧ r = .isl false 1 (bools down) ∧ σ' = upd σ b (srcC ex code a' s') := by
  have x2 := hn.l6
  have e3 : (netC n)[1]? = some (.isl false 3 (linksV n.links)) := rfl
  refine acalls_W c49_ok rfl ?_
  simp (disch := omega) only [c49, netV, go_sem, ↓if_pos, ne_eq, ↓reduceIte]
  refine SRun.boxR (net_one n) ?_
  intro b3 hb3
  have e3' : b ≠ b3 := fun e => by subst e; rw [hb] at hb3; cases hb3
  have M3 : ∀ z, upd (upd σ b z) b3 (netC n) b3 = some (netC n) := fun z => upd_same _ _ _
  have Mb : ∀ z, upd (upd σ b z) b3 (netC n) b = some z := fun z => by rw [upd_ne _ _ e3', upd_same]
  have Mu : ∀ z z', upd (upd (upd σ b z) b3 (netC n)) b z' = upd (upd σ b z') b3 (netC n) := fun z z' => by rw [upd_comm _ e3'.symm, upd_upd]
  have h0 : upd σ b3 (netC n) = upd (upd σ b (srcC ex code 0 s)) b3 (netC n) := by rw [upd_self _ hb]
  simp (disch := omega) only [go_sem, ↓if_pos, ne_eq, ↓reduceIte]
  rw [h0]
  refine W_loopC (α := Nat × List Bool × Int × Int × V × St) (fun p => p.1 ≤ n.links.length ∧ p.2.1.length = p.1 ∧ (0 ≤ p.2.2.1 ∧ p.2.2.1 ≤ 3 * p.1) ∧ (0 ≤ p.2.2.2.1 ∧ p.2.2.2.1 < 2147483648) ∧ OwnL (upd (upd σ b (srcC ex code p.2.2.1 p.2.2.2.1)) b3 (netC n)) 1 (bools p.2.1) p.2.2.2.2.1 p.2.2.2.2.2) (fun p => [(0, .ptr b 0), (3, .ptr b3 0), (5, p.2.2.2.2.1), (6, .int .i64 (p.1 : Nat))]) (fun p => p.2.2.2.2.2) (fun p => n.links.length - p.1) (0, [], 0, s, _, _) ⟨by simp, by simp, by simp, hs, OwnL.nil _ 1⟩ (by simp (disch := omega) only [subT, Int.natCast_add, Int.cast_ofNat_Int, go_sem, ↓if_pos, ne_eq, ↓reduceIte] <;> (repeat' apply And.intro) <;> first | rfl | (congr 1; omega) | assumption) rfl ?_
  rintro ⟨i, xs, a, s, q, σ1⟩ ⟨hi, hxl, ha, hs, ho⟩ ih
  dsimp only at hi hxl ha hs ho
  have g3 := ho.get (M3 _)
  simp (disch := omega) only [g3, e3, go_sem, ↓if_pos, ne_eq, ↓reduceIte]
  first | refine iteW_dec (fun h1 => ?_) (fun h1 => ?_) | refine iteW_of (fun h1 => ?_) (fun h1 => ?_)
  · simp (disch := omega) only [go_sem, ↓if_pos, ne_eq, ↓reduceIte]
    refine SRun.callQ (chance_ok (ho.get (Mb _)) (by omega) hs (by decide)) ⟨[], rfl, rfl⟩ rfl ?_
    rintro r σ2 ⟨x, a2, s2, x4, x5, x6, x7, rfl, rfl⟩
    have ho2 := ho.upd (c' := srcC ex code a2 s2) (Mb _)
    rw [Mu] at ho2
    simp (disch := omega) only [go_sem, ↓if_pos, ne_eq, ↓reduceIte]
    refine SRun.appL ho2 rfl (bool1_ok x) (by simp only [bools_len, List.length_singleton]; omega) ?_
    intro q' σ3 ho3
    rw [bools_app] at ho3
    simp (disch := omega) only [go_sem, ↓if_pos, ne_eq, ↓reduceIte]
    exact ih (i + 1, xs ++ [x], a2, s2, q', σ3) _ _ ⟨by simp only; omega, by simp only [List.length_append, List.length_singleton]; omega, by simp only; omega, ⟨x6, x7⟩, ho3⟩ (by simp only; omega) (by simp (disch := omega) only [subT, Int.natCast_add, Int.cast_ofNat_Int, go_sem, ↓if_pos, ne_eq, ↓reduceIte] <;> (repeat' apply And.intro) <;> first | rfl | (congr 1; omega) | assumption) rfl
  · simp (disch := omega) only [go_sem, ↓if_pos, ne_eq, ↓reduceIte]
    refine W_retC c49_ok (r' := .isl false 1 (bools xs)) (σ' := upd σ b (srcC ex code a s)) rfl ⟨fun d x hd => ?_, ho.frz (fun _ _ => rfl) fun d hd => (upd_none.1 hd).2⟩ ⟨xs, a, s, by omega, rfl, rfl⟩
    refine ho.get ?_
    have hd3 : d ≠ b3 := fun e => by
      subst e
      rw [upd_ne _ _ e3'.symm, hb3] at hd; cases hd
    rw [upd_ne _ _ hd3]; exact hd
theorem EnvOf_ok {n : Net} {ex : Bool} {code : List UInt8} (hl : code.length ≤ 140737488355328) (hn : NetR n) : ACalls Try.prog Γ 9 [codeV ex code, netV n] σ fun r σ' => ∃ env, env.length = n.externals.length ∧ (env.all fun x => inB x 0 2) = true ∧ r = .isl false 1 (ints env) ∧ σ' = σ := by
  have hlen : (netC n).take 6 = netC n := rfl
  have hlen2 : (netC n).length = 6 := rfl
  refine acalls_W c9_ok rfl ?_
  simp (disch := omega) only [c9, netV, go_sem, ↓if_pos, ne_eq, ↓reduceIte]
  refine SRun.boxR (net_one n) ?_
  intro b3 hb3
  have g3 := upd_same σ b3 (netC n)
  simp (disch := omega) only [go_sem, ↓if_pos, ne_eq, ↓reduceIte]
  rw [W_draw]
  refine DRun.start (DRun.mixN rfl ?_)
  simp (disch := omega) only [g3, hlen, hlen2, go_sem, ↓if_pos, ne_eq, ↓reduceIte]
  refine DS.callQ (source_ok (σ := emp) hl) ⟨[], rfl, rfl⟩ rfl ?_
  rintro r sx ⟨b, s, hb, hs1, hs2, rfl, rfl⟩ hd
  have hbf := disj_new hd
  simp (disch := omega) only [go_sem, ↓if_pos, ne_eq, ↓reduceIte]
  rw [cup_new]
  have nb := upd_none.1 hbf
  refine DRun.callQ (env_ok (upd_same _ b (srcC ex code 0 s)) ⟨hs1, hs2⟩ hn) ⟨[], rfl, rfl⟩ ?_
  rintro r sx ⟨env, a', s', q1, q2, rfl, rfl⟩
  simp (disch := omega) only [go_sem, ↓if_pos, ne_eq, ↓reduceIte]
  refine W_retC c9_ok (r' := .isl false 1 (ints env)) (σ' := σ) rfl (Conv.drop _ fun d x h => ?_) ⟨env, q1, q2, rfl, rfl⟩
  have e1 : d ≠ b := fun e => by subst e; rw [nb.2] at h; cases h
  have e2 : d ≠ b3 := fun e => by subst e; rw [hb3] at h; cases h
  simp only [upd_ne _ _ e1, upd_ne _ _ e2]; exact h
theorem DownOf_ok {n : Net} {ex : Bool} {code : List UInt8} (hl : code.length ≤ 140737488355328) (hn : NetR n) : ACalls Try.prog Γ 10 [codeV ex code, netV n] σ fun r σ' => ∃ down, down.length = n.links.length ∧ r = .isl false 1 (bools down) ∧ σ' = σ := by
  have hlen : (netC n).take 6 = netC n := rfl
  have hlen2 : (netC n).length = 6 := rfl
  refine acalls_W c10_ok rfl ?_
  simp (disch := omega) only [c10, netV, go_sem, ↓if_pos, ne_eq, ↓reduceIte]
  refine SRun.boxR (net_one n) ?_
  intro b3 hb3
  have g3 := upd_same σ b3 (netC n)
  simp (disch := omega) only [go_sem, ↓if_pos, ne_eq, ↓reduceIte]
  rw [W_draw]
  refine DRun.start (DRun.mixN rfl ?_)
  simp (disch := omega) only [g3, hlen, hlen2, go_sem, ↓if_pos, ne_eq, ↓reduceIte]
  refine DS.callQ (source_ok (σ := emp) hl) ⟨[], rfl, rfl⟩ rfl ?_
  rintro r sx ⟨b, s, hb, hs1, hs2, rfl, rfl⟩ hd
  have hbf := disj_new hd
  simp (disch := omega) only [go_sem, ↓if_pos, ne_eq, ↓reduceIte]
  rw [cup_new]
  have nb := upd_none.1 hbf
  refine DRun.callQ (down_ok (upd_same _ b (srcC ex code 0 s)) ⟨hs1, hs2⟩ hn) ⟨[], rfl, rfl⟩ ?_
  rintro r sx ⟨down, a', s', q1, rfl, rfl⟩
  simp (disch := omega) only [go_sem, ↓if_pos, ne_eq, ↓reduceIte]
  refine W_retC c10_ok (r' := .isl false 1 (bools down)) (σ' := σ) rfl (Conv.drop _ fun d x h => ?_) ⟨down, q1, rfl, rfl⟩
  have e1 : d ≠ b := fun e => by subst e; rw [nb.2] at h; cases h
  have e2 : d ≠ b3 := fun e => by subst e; rw [hb3] at h; cases h
  simp only [upd_ne _ _ e1, upd_ne _ _ e2]; exact h
end Go.Proofs.Ytabelcohkpmpnaa.Lg
