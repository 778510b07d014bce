/- The own logic: a row of bytes that becomes a text. It holds for every program. -/
import Derived.Test.YtdenfjbhkdhlkaaLgI
import Derived.Laws.BytesArg
set_option linter.unusedSimpArgs false
set_option linter.unusedVariables false
namespace Go.Proofs.Ytdenfjbhkdhlkaa.Lg
open Go
variable {P : Program} {Γ : St}
def u8s (bs : List UInt8) : List V := bs.map fun c => .int .u8 (c.toNat : Int)
theorem u8s_len (bs : List UInt8) : (u8s bs).length = bs.length := by simp [u8s]
theorem u8s_app (bs cs : List UInt8) : u8s (bs ++ cs) = u8s bs ++ u8s cs := by simp [u8s]
theorem u8s_ok (bs : List UInt8) : ∀ y ∈ u8s bs, y.cells.length = 1 ∧ ∀ c ∈ y.cells, c.one = true := by
 intro y hy; simp only [u8s, List.mem_map] at hy; obtain ⟨x, _, rfl⟩ := hy; exact ⟨rfl, by simp [V.cells, V.one]⟩
theorem flat_u8s (bs : List UInt8) : flat (u8s bs) = u8s bs := flat_one fun x hx => by obtain ⟨y, _, rfl⟩ := List.mem_map.1 hx; rfl
theorem inv_b2s {o : Oper} {x : Opd} (hc : compI P o = some (.b2s x)) : ∃ s d e y, o.op = .convert s d y ∧ P.underlying s = some (.slice e) ∧ P.underlying d = some .string ∧ P.underlying e = some (.int .u8) ∧ opd y = some x := by
 cases ho : o.op with
 | convert s d y =>
  simp only [compI, ho] at hc
  split at hc
  ·simp only [Option.map_eq_some_iff, reduceCtorEq, and_false, exists_false] at hc
  ·rename_i e h1 h2
   split at hc
   ·rename_i he
    rw [if_pos rfl] at hc
    simp only [Option.map_eq_some_iff, I.b2s.injEq] at hc
    obtain ⟨x1, hx, rfl⟩ := hc
    exact ⟨s, d, e, y, rfl, h1, h2, he, hx⟩
   ·simp at hc
  ·split at hc
   ·rw [if_pos rfl] at hc
    simp only [Option.map_eq_some_iff, reduceCtorEq, and_false, exists_false] at hc
   ·simp at hc
  ·cases hc
 | _ => exfalso; simp only [compI, ho] at hc; (repeat' split at hc) <;> first | (simp at hc; done) | (simp only [Option.bind_eq_bind, Option.bind_eq_some_iff] at hc; obtain ⟨fd, _, hc⟩ := hc; split at hc <;> first | (simp at hc; done) | (simp only [Option.bind_eq_some_iff, Option.some.injEq, reduceCtorEq, and_false, exists_false] at hc; done)) | (simp only [Option.map_eq_some_iff, Option.bind_eq_bind, Option.bind_eq_some_iff, Option.some.injEq, reduceCtorEq, and_false, exists_false] at hc; done) | (simp_all; done)
theorem strOf_u8 (bs : List UInt8) : strOfNums (bs.map fun c => (c.toNat : Int)) = ⟨bs.toArray⟩ := by
 unfold strOfNums
 rw [List.map_map]
 have : bs.map ((fun n : Int => UInt8.ofNat n.toNat) ∘ fun c : UInt8 => (c.toNat : Int)) = bs := by
  conv => rhs; rw [← List.map_id bs]
  refine List.map_congr_left fun c _ => ?_
  simp
 rw [this]
theorem mem_u8 {w : World} {O : Nat → Prop} {bs : List UInt8} {b off : Nat} (h : Mem w O (u8s bs) b off) : ∀ i, i < bs.length → w.cell? ⟨b, off + i, none⟩ = some (.int .u8 ((bs.map fun c => (c.toNat : Int)).getD i 0)) := by
 intro i hi
 have hg : (u8s bs)[i]? = some (.int .u8 ((bs[i].toNat : Nat) : Int)) := by simp [u8s, hi]
 obtain ⟨_, v, h1, h2⟩ := h i _ hg
 rw [h1]
 cases h2
 simp [List.getD, hi]
theorem InsOK.b2s {x : Opd} {T : Ts} {σ : St} {G : V → St → Prop} {bs : List UInt8} (hx : (∃ ex, ev Γ T x = .isl ex 1 (u8s bs)) ∨ ∃ b cap, ev Γ T x = .msl b 1 0 bs.length cap ∧ σ b = some (u8s bs)) (hG : G (.str bs) σ) : InsOK P Γ (.b2s x) T σ G := by
 intro o hc τ w a hpre
 obtain ⟨s, d, e, y, ho, hs, hd, he, hy⟩ := inv_b2s hc
 have r1 := ev_rep hpre hy
 have hrun : (convert s d (a.eval y)).run P w = .ok (.string ⟨bs.toArray⟩) w := by
  rcases hx with ⟨ex, hx⟩ | ⟨b, cap, hx, hb⟩
  ·rw [hx] at r1
   by_cases hn : bs = []
   ·subst hn
    obtain ⟨u, c, hv, _⟩ := r1.isl_len
    rw [hv]
    cases u with
    | none => exact run_convert_bytes_nil w s e hs he _ _ d hd
    | some ad =>
     rw [run_convert_bytes_string w s d e _ _ _ hs he hd]
     exact run_bytesToString w ad 0 c [] (by simp [loadCells, Sem.run_pure] <;> rfl)
   ·obtain ⟨b, off, c, hv, h1, h2, h3, h4, h5, h6⟩ := r1.isl_mem (by simp [u8s, hn])
    rw [flat_u8s] at h6
    rw [hv, u8s_len, run_convert_bytes_arg w s e hs he b off bs.length c (bs.map fun c => (c.toNat : Int)) (by simp) (mem_u8 h6) d hd, strOf_u8]
  ·rw [hx] at r1
   obtain ⟨arr, e2, fz, hv, g1, g2, g3⟩ := rep_msl_inv r1
   have hm := hpre.sim.mem (cup_of_some (τ := τ) hb)
   rw [hv, run_convert_bytes_arg w s e hs he b 0 bs.length cap (bs.map fun c => (c.toNat : Int)) (by simp) (mem_u8 hm) d hd, strOf_u8]
 unfold Oper.wp
 have hexec : (execOp a.eval o).run P w = .ok (.value (.string ⟨bs.toArray⟩)) w := by
  simp only [execOp, ho]
  exact run_v hrun
 rw [hexec]
 exact ⟨.str bs, _, _, rfl, hG, hpre.dj, hpre.sim, .str _, Keep.refl _ _⟩
section
variable {f : FuncId} {n : Nat} {k : List It} {T : Ts} {σ : St} {Q : V → St → Prop} {d : Option Nat} {l : List GI}
theorem SRun.b2sR {x : Opd} {bs : List UInt8} (hx : (∃ ex, ev Γ T x = .isl ex 1 (u8s bs)) ∨ ∃ b cap, ev Γ T x = .msl b 1 0 bs.length cap ∧ σ b = some (u8s bs)) (hk : W P Γ f n Q (.ops l :: k) (putT T d (.str bs)) σ) : SRun P Γ f n (.ops (⟨d, none, .b2s x⟩ :: l) :: k) T σ Q :=
 SRun.op (G := fun y s => y = .str bs ∧ s = σ) rfl (InsOK.b2s hx ⟨rfl, rfl⟩) (fun y s ⟨e1, e2⟩ => by subst e1 e2; exact hk.sound)
end
end Go.Proofs.Ytdenfjbhkdhlkaa.Lg
