/- The own logic: texts that become rows of bytes, and back, in parts that draw. It holds for every program. -/
import Derived.Test.YtjibkkhgejcjeaaGreatDoorLgL
import Derived.Lib.ConvBytes
set_option linter.unusedSimpArgs false
set_option linter.unusedVariables false
namespace Go.Proofs.YtjibkkhgejcjeaaGreatDoor.Lg
open Go
section
variable {P : Program} {Γ : St}
theorem u8of_u8s : ∀ (bs : List UInt8), u8of (u8s bs) = some bs := by
  intro bs
  induction bs with
  | nil => rfl
  | cons b r ih =>
    have h : u8s (b :: r) = .int .u8 (b.toNat : Int) :: u8s r := rfl
    have hb := b.toNat_lt
    rw [h]; unfold u8of
    rw [if_pos (by omega), ih, Option.map_some]
    simp
theorem stepK_b2s_one {σ : St} {K : V → St → Prop} {ex : Bool} (c : UInt8) : stepK (.b2s (.c (.isl ex 1 [.int .u8 (c.toNat : Int)]))) σ K = K (.str [c]) σ := by
  have h : u8of [V.int .u8 (c.toNat : Int)] = some [c] := u8of_u8s [c]
  simp [stepK, insW, pureI, ev, h]
theorem inv_s2b {o : Oper} {x : Opd} (hc : compI P o = some (.s2b x)) : ∃ s d e y, o.op = .convert s d y ∧ P.underlying s = some .string ∧ P.underlying d = some (.slice e) ∧ P.underlying e = some (.int .u8) ∧ opd y = some x := by
  cases ho : o.op with
  | convert s d y =>
    simp only [compI, ho] at hc
    split at hc
    · simp only [Option.map_eq_some_iff, reduceCtorEq, and_false, exists_false] at hc
    · split at hc
      · rw [if_pos rfl] at hc
        simp only [Option.map_eq_some_iff, reduceCtorEq, and_false, exists_false] at hc
      · simp at hc
    · rename_i e h1 h2
      split at hc
      · rename_i he
        rw [if_pos rfl] at hc
        simp only [Option.map_eq_some_iff, I.s2b.injEq] at hc
        obtain ⟨x1, hx, rfl⟩ := hc
        exact ⟨s, d, e, y, rfl, h1, h2, he, hx⟩
      · simp at hc
    · cases hc
  | _ => exfalso; simp only [compI, ho] at hc; (repeat' split at hc) <;> first | (simp at hc; done) | (simp only [Option.bind_eq_bind, Option.bind_eq_some_iff] at hc; obtain ⟨fd, _, hc⟩ := hc; split at hc <;> first | (simp at hc; done) | (simp only [Option.bind_eq_some_iff, Option.some.injEq, reduceCtorEq, and_false, exists_false] at hc; done)) | (simp only [Option.map_eq_some_iff, Option.bind_eq_bind, Option.bind_eq_some_iff, Option.some.injEq, reduceCtorEq, and_false, exists_false] at hc; done) | (simp_all; done)
theorem InsOK.s2b {x : Opd} {T : Ts} {σ : St} {G : V → St → Prop} {s : List UInt8} (hx : ev Γ T x = .str s) (hG : ∀ b cap, σ b = none → s.length ≤ cap → G (.msl b 1 0 s.length cap) (upd σ b (u8s s))) : InsOK P Γ (.s2b x) T σ G := by
  intro o hc τ w a hpre
  obtain ⟨t, d, e, y, ho, hs, hd, he, hy⟩ := inv_s2b hc
  have r1 := ev_rep hpre hy
  rw [hx] at r1
  have hv := rep_str_inv r1
  have hrun := Go.Lib.run_convert_string_bytes (P := P) w t d e ⟨s.toArray⟩ hs hd he
  have hsz : (⟨s.toArray⟩ : ByteArray).size = s.length := size_of_bytes s
  have hcap := Go.grownCap_ge w (⟨s.toArray⟩ : ByteArray).size 0 e
  rw [hsz] at hrun hcap
  have hf := hpre.sim.fresh2
  have h1 := Go.Lib.bytesWorld_at_new w e ⟨s.toArray⟩
  have hbsz : (Go.Lib.bytesCells w e ⟨s.toArray⟩).size = grownCap w s.length 0 e := by simp [Go.Lib.bytesCells, hsz]; omega
  have hold := Go.Lib.bytesWorld_at_old w e ⟨s.toArray⟩
  have hws := Go.Lib.bytesWorld_size w e ⟨s.toArray⟩
  have hcell : ∀ (i : Nat) (x : V), (u8s s)[i]? = some x → x.one = true ∧ ∀ w' O, Rep w' O x ((Go.Lib.bytesCells w e ⟨s.toArray⟩).getD i undef) := fun i x hi => by
    obtain ⟨hi', rfl⟩ := List.getElem?_eq_some_iff.1 hi
    have hi2 : i < s.length := by simpa [u8s] using hi'
    refine ⟨by simp [u8s, V.one], fun w' O => ?_⟩
    have : (Go.Lib.bytesCells w e ⟨s.toArray⟩).getD i undef = .int .u8 (s[i].toNat : Int) := by
      simp [Go.Lib.bytesCells, Array.getD_eq_getD_getElem?, Array.getElem?_append, hi2]
    rw [this]; simp only [u8s, List.getElem_map]; exact .int _ _
  have hbw : SameIO w (Go.Lib.bytesWorld w e ⟨s.toArray⟩) := ⟨rfl, rfl, rfl⟩
  have hk : Keep w (Go.Lib.bytesWorld w e ⟨s.toArray⟩) (own (cup σ τ)) (own (upd (cup σ τ) w.heap.size (u8s s))) := by
    refine ⟨by rw [hws]; omega, fun b hb _ => hold b hb, fun b arr e2 fz hb => ⟨arr, fz, by rw [hold b (lt_of_get hb)]; exact hb, rfl⟩, fun b hb => ?_, hbw⟩
    rcases own_upd.1 hb with h | h
    · exact .inr (by omega)
    · exact .inl h
  have hsim : Sim (upd (cup σ τ) w.heap.size (u8s s)) (Go.Lib.bytesWorld w e ⟨s.toArray⟩) := by
    intro b cs hb
    by_cases hn : b = w.heap.size
    · subst hn
      rw [upd_same] at hb
      obtain rfl := Option.some.inj hb
      exact ⟨_, _, _, h1, fun i hi h => by omega, by rw [hbsz, u8s_len]; exact hcap, fun i x hx => ⟨(hcell i x hx).1, (hcell i x hx).2 _ _⟩⟩
    · rw [upd_ne _ _ hn] at hb
      obtain ⟨arr, e1, fz, g1, g2, g3, g4⟩ := hpre.sim b cs hb
      exact ⟨arr, e1, fz, by rw [hold b (lt_of_get g1)]; exact g1, g2, g3, fun i x hx => ⟨(g4 i x hx).1, (g4 i x hx).2.keep hk⟩⟩
  rw [← cup_upd] at hk hsim
  unfold Oper.wp
  have hexec : (execOp a.eval o).run P w = .ok (.value (.slice (some ⟨w.heap.size, 0, none⟩) s.length (grownCap w s.length 0 e))) (Go.Lib.bytesWorld w e ⟨s.toArray⟩) := by
    simp only [execOp, ho, hv]
    exact run_v hrun
  rw [hexec]
  exact ⟨.msl w.heap.size 1 0 s.length (grownCap w s.length 0 e), _, _, rfl, hG _ _ hf.1 hcap, disj_upd hpre.dj hf.2, hsim, .msl _ 1 0 _ _ _ _ _ h1 (by rw [hbsz]; omega) hcap, hk⟩
theorem WrF.s2b {d : Option Nat} {x : Opd} {T : Ts} {σ : St} {s : List UInt8} (hx : ev Γ T x = .str s) : WrF P Γ σ T ⟨d, none, .s2b x⟩ fun r s' => ∃ b cap, σ b = none ∧ s.length ≤ cap ∧ r = .msl b 1 0 s.length cap ∧ s' = upd σ b (u8s s) :=
  WrF.of fun T' he => InsOK.s2b (by rw [he x (by simp [I.opds])]; exact hx) fun b cap hb hc => ⟨b, cap, hb, hc, rfl, rfl⟩
theorem u8s_own {σ : St} {s : List UInt8} {b cap : Nat} (hb : σ b = none) (hc : s.length ≤ cap) : OwnL σ 1 (u8s s) (.msl b 1 0 s.length cap) (upd σ b (u8s s)) :=
  ⟨.inr ⟨b, cap, hb, by rw [u8s_len], by rw [flat_u8s], by rw [flat_u8s]; simp, by rw [u8s_len]; exact hc⟩, u8s_ok s⟩
end
section
variable {P : Program} {Γ : St} {f : FuncId} {n : Nat} {Q : V → St → Prop} {k : List It} {T : Ts} {σ : St}
theorem DRun.s2bR {d : Option Nat} {x : Opd} {segs : List DT} {s : List UInt8} (hx : ev Γ T x = .str s) (hk : ∀ r σ', OwnL σ 1 (u8s s) r σ' → WD P Γ f n Q k segs (putT T d r) σ') : DRun P Γ f n Q (.wr ⟨d, none, .s2b x⟩ .nil .no :: segs) k T σ :=
  DRun.w1 (G := fun r σ' => OwnL σ 1 (u8s s) r σ') (fun T' hT => InsOK.s2b (by rw [ev_congr (g := ⟨d, none, .s2b x⟩) hT x (by simp [I.opds])]; exact hx) fun b cap hb hc => u8s_own hb hc) hk
theorem WD_s2b {d : Option Nat} {g : Option (Nat × Bool)} {u v : DT} {r : List DT} (x : Opd) : WD P Γ f n Q k (.wr ⟨d, g, .s2b x⟩ u v :: r) T σ = DRun P Γ f n Q (.wr ⟨d, g, .s2b x⟩ u v :: r) k T σ := rfl
theorem SRun.s2bR {d : Option Nat} {l : List GI} {x : Opd} {s : List UInt8} (hx : ev Γ T x = .str s) (hk : ∀ r σ', OwnL σ 1 (u8s s) r σ' → W P Γ f n Q (.ops l :: k) (putT T d r) σ') : SRun P Γ f n (.ops (⟨d, none, .s2b x⟩ :: l) :: k) T σ Q :=
  SRun.op (G := fun r σ' => OwnL σ 1 (u8s s) r σ') rfl (InsOK.s2b hx fun b cap hb hc => u8s_own hb hc) fun x s h => (hk x s h).sound
end
attribute [go_sem] WD_s2b stepK_b2s_one
end Go.Proofs.YtjibkkhgejcjeaaGreatDoor.Lg
