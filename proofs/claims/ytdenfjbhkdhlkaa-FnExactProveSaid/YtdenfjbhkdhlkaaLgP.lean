/- The own logic: all pure instructions together. It holds for every program. -/
import Derived.Test.YtdenfjbhkdhlkaaLgG
set_option linter.unusedSimpArgs false
set_option linter.unusedVariables false
namespace Go.Proofs.Ytdenfjbhkdhlkaa.Lg
open Go

section
variable {P : Program} {Γ : St} {T : Ts} {σ τ : St} {w : World} {a : Act} {o : Oper} {i : I} {p : Prop} {x : V}

theorem okT_some {t : TypeId} (h : okT P t = true) : ∃ d, P.underlying t = some d := Option.isSome_iff_exists.1 h
theorem okT_info {t : TypeId} (h : okT P t = true) : ∃ it, P.info? t = some it := by obtain ⟨d, hd⟩ := okT_some h; exact underlying_info hd

theorem y_call (hpre : Pre Γ T σ τ w a) {c : Call} (ho : o.op = .call c) (hc : compI P o = some i) (hp : pureI σ (ev Γ T) i = some (p, x)) (hs : p) : Yields P o a w (own (cup σ τ)) x := by
 obtain ⟨callee, args, tys⟩ := c
 simp only [compI, ho] at hc
 cases callee with
 | value f =>
  simp only [Option.bind_eq_bind, Option.bind_eq_some_iff, Option.some.injEq] at hc
  obtain ⟨_, _, _, _, rfl⟩ := hc
  simp [pureI] at hp
 | invoke r m => simp at hc
 | builtin b =>
  cases b <;> simp only [reduceCtorEq] at hc
  case len =>
   split at hc
   ·rename_i y hargs hty
    simp only [Option.map_eq_some_iff] at hc
    obtain ⟨y1, hy, rfl⟩ := hc
    simp only [Option.bind_eq_some_iff] at hty
    obtain ⟨t, ht, htu⟩ := hty
    exact y_lens hpre ho rfl (by apply Array.ext'; simpa using hargs) ht htu hy rfl hp
   ·rename_i y e hargs hty
    simp only [Option.map_eq_some_iff] at hc
    obtain ⟨y1, hy, rfl⟩ := hc
    simp only [Option.bind_eq_some_iff] at hty
    obtain ⟨t, ht, htu⟩ := hty
    exact y_len hpre ho rfl (by apply Array.ext'; simpa using hargs) ht htu hy rfl hp
   ·rename_i y n e hargs hty
    simp only [Option.some.injEq] at hc
    subst hc
    simp only [pureI, Option.some.injEq, Prod.mk.injEq] at hp
    obtain ⟨_, rfl⟩ := hp
    simp only [Option.bind_eq_some_iff] at hty
    obtain ⟨t, ht, htu⟩ := hty
    have hargs' : args = #[y] := by apply Array.ext'; simpa using hargs
    subst hargs'
    refine .same (v := .int .i64 n) ?_ (.int _ _)
    simp [execOp, ho, resolve, invoke, builtin, Builtin.len_, ht, run_underlying htu, goInt]
   ·simp at hc
  case cap =>
   split at hc
   ·rename_i y e hargs hty
    simp only [Option.map_eq_some_iff] at hc
    obtain ⟨y1, hy, rfl⟩ := hc
    simp only [Option.bind_eq_some_iff] at hty
    obtain ⟨t, ht, htu⟩ := hty
    exact y_cap hpre ho rfl (by apply Array.ext'; simpa using hargs) ht htu hy rfl hp
   ·simp at hc
  case max =>
   split at hc
   ·rename_i y z hargs
    simp only [Option.bind_eq_bind, Option.bind_eq_some_iff, Option.some.injEq] at hc
    obtain ⟨y1, hy, z1, hz, rfl⟩ := hc
    exact y_mx hpre ho rfl (by apply Array.ext'; simpa using hargs) hy hz rfl hp hs
   ·simp at hc
  case min =>
   split at hc
   ·rename_i y z hargs
    simp only [Option.bind_eq_bind, Option.bind_eq_some_iff, Option.some.injEq] at hc
    obtain ⟨y1, hy, z1, hz, rfl⟩ := hc
    exact y_mn hpre ho rfl (by apply Array.ext'; simpa using hargs) hy hz rfl hp hs
   ·simp at hc
  case append =>
   split at hc
   ·split at hc
    ·simp at hc
    ·simp only [Option.bind_eq_bind, Option.bind_eq_some_iff, Option.some.injEq] at hc
     obtain ⟨_, _, _, _, rfl⟩ := hc
     simp [pureI] at hp
   ·split at hc
    ·simp at hc
    ·simp only [Option.bind_eq_bind, Option.bind_eq_some_iff, Option.some.injEq] at hc
     obtain ⟨_, _, _, _, rfl⟩ := hc
     simp [pureI] at hp
   ·split at hc
    ·simp at hc
    ·simp only [Option.bind_eq_bind, Option.bind_eq_some_iff, Option.some.injEq] at hc
     obtain ⟨_, _, _, _, _, _, rfl⟩ := hc
     simp [pureI] at hp
   ·simp at hc
  case copy =>
   split at hc
   ·simp only [Option.bind_eq_bind, Option.bind_eq_some_iff, Option.some.injEq] at hc
    obtain ⟨_, _, _, _, rfl⟩ := hc
    simp [pureI] at hp
   ·simp at hc
  case clear =>
   split at hc
   ·simp only [Option.bind_eq_bind, Option.bind_eq_some_iff, Option.some.injEq] at hc
    obtain ⟨_, _, _, _, rfl⟩ := hc
    simp [pureI] at hp
   ·simp at hc

theorem y_binop (hpre : Pre Γ T σ τ w a) {op : BinOp} {t t' : TypeId} {y z : Operand} (ho : o.op = .binOp op t y z t') (hc : compI P o = some i) (hp : pureI σ (ev Γ T) i = some (p, x)) (hs : p) (hne : ∀ neg ks u v, i ≠ .eqa neg ks u v) : Yields P o a w (own (cup σ τ)) x := by
 have bin : ∀ op' , (do some (I.bin op' (← opd y) (← opd z))) = some i → op' = op → Yields P o a w (own (cup σ τ)) x := by
  intro op' h he
  subst he
  simp only [Option.bind_eq_bind, Option.bind_eq_some_iff, Option.some.injEq] at h
  obtain ⟨y1, hy, z1, hz, rfl⟩ := h
  exact y_bin hpre ho hy hz rfl hp hs
 simp only [compI, ho] at hc
 split at hc
 ·split at hc
  ·simp only [Option.bind_eq_bind, Option.bind_eq_some_iff, Option.some.injEq] at hc
   obtain ⟨_, _, y1, hy, z1, hz, rfl⟩ := hc
   exact absurd rfl (hne _ _ _ _)
  ·simp at hc
 ·split at hc
  ·simp only [Option.bind_eq_bind, Option.bind_eq_some_iff, Option.some.injEq] at hc
   obtain ⟨_, _, y1, hy, z1, hz, rfl⟩ := hc
   exact absurd rfl (hne _ _ _ _)
  ·simp at hc
 ·rename_i ht
  simp only [Option.bind_eq_bind, Option.bind_eq_some_iff, Option.some.injEq] at hc
  obtain ⟨y1, hy, z1, hz, rfl⟩ := hc
  exact y_eqb hpre (neg := false) rfl ho ht hy hz rfl hp
 ·rename_i ht
  simp only [Option.bind_eq_bind, Option.bind_eq_some_iff, Option.some.injEq] at hc
  obtain ⟨y1, hy, z1, hz, rfl⟩ := hc
  exact y_eqb hpre (neg := true) rfl ho ht hy hz rfl hp
 ·rename_i e ht
  simp only [Option.bind_eq_bind, Option.bind_eq_some_iff, Option.some.injEq] at hc
  obtain ⟨y1, hy, z1, hz, rfl⟩ := hc
  exact y_eqp hpre (neg := false) rfl ho ht hy hz rfl hp
 ·rename_i e ht
  simp only [Option.bind_eq_bind, Option.bind_eq_some_iff, Option.some.injEq] at hc
  obtain ⟨y1, hy, z1, hz, rfl⟩ := hc
  exact y_eqp hpre (neg := true) rfl ho ht hy hz rfl hp
 ·split at hc
  ·simp only [Option.map_eq_some_iff] at hc
   obtain ⟨_, _, rfl⟩ := hc
   simp [pureI] at hp
  ·simp at hc
 ·split at hc
  ·simp only [Option.map_eq_some_iff] at hc
   obtain ⟨_, _, rfl⟩ := hc
   simp [pureI] at hp
  ·simp at hc
 ·exact bin _ hc rfl
 ·exact bin _ hc rfl
 ·simp at hc

/-- The pure instructions but those that build and compare structs. -/
theorem pure_ok (hpre : Pre Γ T σ τ w a) (hc : compI P o = some i) (hp : pureI σ (ev Γ T) i = some (p, x)) (hs : p) (hne : ∀ neg ks u v, i ≠ .eqa neg ks u v) (hnb : ∀ z ps, i ≠ .build z ps) (hnr : ∀ es n zv ps, i ≠ .bsl es n zv ps) : Yields P o a w (own (cup σ τ)) x := by
 cases ho : o.op with
 | move y => exact y_move hpre (.inl ho) hc hp
 | assign y => exact y_move hpre (.inr ho) hc hp
 | pick c y z => exact y_pick hpre ho hc hp
 | load t y =>
  have hc2 := hc
  simp only [compI, ho] at hc2
  split at hc2
  ·rename_i h; exact y_load hpre ho (okT_some h) (by simpa [compI, ho, h] using hc2) hp hs
  ·simp at hc2
 | nilCheck y => exact y_nilck hpre ho hc hp
 | binOp op t y z t' => exact y_binop hpre ho hc hp hs hne
 | unOp op t y => exact y_un hpre ho hc hp
 | convert s d y =>
  simp only [compI, ho] at hc
  split at hc
  ·rename_i k k' hs' hd
   simp only [Option.map_eq_some_iff] at hc
   obtain ⟨y1, hy, rfl⟩ := hc
   exact y_i2i hpre ho hs' hd hy rfl hp
  all_goals (repeat' split at hc) <;> first | (simp at hc; done) | (simp only [Option.map_eq_some_iff] at hc; obtain ⟨_, _, rfl⟩ := hc; simp [pureI] at hp; done)
 | makeFunc fn first cs =>
  cases fn with
  | func f => exact y_mkfn hpre ho hc hp
  | _ => simp [compI, ho] at hc
 | slice t y lo hi mx =>
  simp only [compI, ho] at hc
  split at hc
  ·rename_i e ht
   split at hc
   ·rename_i hok
    simp only [Bool.and_eq_true, Bool.or_eq_true] at hok
    simp only [Option.bind_eq_bind, Option.bind_eq_some_iff, Option.some.injEq] at hc
    obtain ⟨y1, hy, lo1, hlo, hi1, hhi, mx1, hmx, rfl⟩ := hc
    refine y_sl hpre ho ht (okT_info hok.1) hy hlo hhi hmx ?_ rfl hp hs
    rcases hok.2 with h | h
    ·exact .inl (by simpa using h)
    ·exact .inr (by intro h0; subst h0; simp at h)
   ·simp at hc
  ·rename_i ht
   split at hc
   ·simp only [Option.bind_eq_bind, Option.bind_eq_some_iff, Option.some.injEq] at hc
    obtain ⟨y1, hy, lo1, hlo, hi1, hhi, rfl⟩ := hc
    exact y_sls hpre ho ht hy hlo hhi rfl hp hs
   ·simp at hc
  ·split at hc
   ·simp only [Option.bind_eq_bind, Option.bind_eq_some_iff, Option.some.injEq] at hc
    obtain ⟨_, _, rfl⟩ := hc
    simp [pureI] at hp
   ·simp at hc
  ·simp at hc
 | fieldAddr s y f => exact y_faddr hpre ho hc hp
 | field s y f =>
  refine y_field hpre ho (fun fs fd hfs hfd => ?_) ?_ hp hs
  ·simp only [compI, ho, hfs, hfd, Option.bind_eq_bind, Option.bind_some] at hc
   split at hc
   ·simp at hc
   ·rename_i h; exact okT_some (by simpa using h)
  ·exact hc
 | indexAddr t y z =>
  simp only [compI, ho] at hc
  split at hc
  ·rename_i e ht
   split at hc
   ·rename_i hok
    simp only [Option.bind_eq_bind, Option.bind_eq_some_iff, Option.some.injEq] at hc
    obtain ⟨y1, hy, z1, hz, rfl⟩ := hc
    exact y_iaddr hpre ho ht (okT_info hok) hy hz rfl hp hs
   ·simp at hc
  ·rename_i n e ht
   split at hc
   ·rename_i hok
    simp only [Option.bind_eq_bind, Option.bind_eq_some_iff, Option.some.injEq] at hc
    obtain ⟨y1, hy, z1, hz, rfl⟩ := hc
    exact y_iaddrA hpre ho ht (okT_info hok) hy hz rfl hp hs
   ·simp at hc
  ·simp at hc
 | index t y z =>
  simp only [compI, ho] at hc
  split at hc
  ·rename_i ht
   simp only [Option.bind_eq_bind, Option.bind_eq_some_iff, Option.some.injEq] at hc
   obtain ⟨y1, hy, z1, hz, rfl⟩ := hc
   exact y_idxs hpre ho ht hy hz rfl hp hs
  ·rename_i n e ht
   split at hc
   ·rename_i hok
    obtain ⟨d, hd⟩ := okT_some hok
    simp only [Option.bind_eq_bind, Option.bind_eq_some_iff, Option.some.injEq] at hc
    obtain ⟨y1, hy, z1, hz, rfl⟩ := hc
    exact y_idxA hpre ho ht hd hy hz rfl hp hs
   ·simp at hc
  ·simp at hc
 | extract y n => exact y_ext hpre ho hc hp hs
 | call c => exact y_call hpre ho hc hp hs
 | build t ps =>
  simp only [compI, ho] at hc
  split at hc
  ·simp only [Option.bind_eq_bind, Option.bind_eq_some_iff] at hc
   obtain ⟨_, _, hc⟩ := hc
   split at hc
   ·simp only [Option.bind_eq_some_iff, Option.some.injEq] at hc
    obtain ⟨_, _, rfl⟩ := hc
    exact absurd rfl (hnb _ _)
   ·simp at hc
  ·simp at hc
 | buildSlice t n ps =>
  simp only [compI, ho] at hc
  split at hc
  ·simp only [Option.bind_eq_bind, Option.bind_eq_some_iff] at hc
   obtain ⟨_, _, hc⟩ := hc
   split at hc
   ·simp only [Option.bind_eq_some_iff, Option.some.injEq] at hc
    obtain ⟨_, _, rfl⟩ := hc
    exact absurd rfl (hnr _ _ _ _)
   ·simp at hc
  ·simp at hc
 | alloc e =>
  simp only [compI, ho, Option.map_eq_some_iff] at hc
  obtain ⟨_, _, rfl⟩ := hc
  simp [pureI] at hp
 | box e y =>
  simp only [compI, ho] at hc
  split at hc
  ·simp only [Option.map_eq_some_iff] at hc
   obtain ⟨_, _, rfl⟩ := hc
   simp [pureI] at hp
  ·simp at hc
 | store t y z =>
  simp only [compI, ho] at hc
  split at hc
  ·simp only [Option.bind_eq_bind, Option.bind_eq_some_iff, Option.some.injEq] at hc
   obtain ⟨_, _, _, _, rfl⟩ := hc
   simp [pureI] at hp
  ·simp at hc
 | makeSlice t l c =>
  simp only [compI, ho] at hc
  split at hc
  ·simp only [Option.bind_eq_bind, Option.bind_eq_some_iff, Option.some.injEq] at hc
   obtain ⟨_, _, _, _, _, _, rfl⟩ := hc
   simp [pureI] at hp
  ·simp at hc
 | _ => simp [compI, ho] at hc

end
end Go.Proofs.Ytdenfjbhkdhlkaa.Lg
