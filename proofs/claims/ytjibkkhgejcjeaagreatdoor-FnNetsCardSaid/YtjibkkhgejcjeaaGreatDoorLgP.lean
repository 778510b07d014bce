/- The own logic: all pure instructions together. It holds for every program. -/
import Derived.Test.YtjibkkhgejcjeaaGreatDoorLgG
import Derived.Laws.BytesArg
set_option linter.unusedSimpArgs false
set_option linter.unusedVariables false
namespace Go.Proofs.YtjibkkhgejcjeaaGreatDoor.Lg
open Go

section
variable {P : Program} {Γ : St} {T : Ts} {σ τ : St} {w : World} {a : Act} {o : Oper} {i : I} {p : Prop} {x : V}

theorem okT_some {t : TypeId} (h : okT P t = true) : ∃ d, P.underlying t = some d := Option.isSome_iff_exists.1 h
theorem okT_info {t : TypeId} (h : okT P t = true) : ∃ it, P.info? t = some it := by obtain ⟨d, hd⟩ := okT_some h; exact underlying_info hd

theorem y_call (hpre : Pre Γ T σ τ w a) {c : Call} (ho : o.op = .call c) (hc : compI P o = some i) (hp : pureI σ (ev Γ T) i = some (p, x)) (hs : p) : Yields P o a w (own (cup σ τ)) x := by
  obtain ⟨callee, args, tys⟩ := c
  simp only [compI, ho] at hc
  cases callee with
  | value f =>
    simp only [Option.bind_eq_bind, Option.bind_eq_some_iff, Option.some.injEq] at hc
    obtain ⟨_, _, _, _, rfl⟩ := hc
    simp [pureI] at hp
  | invoke r m => simp at hc
  | builtin b =>
    cases b <;> simp only [reduceCtorEq] at hc
    case len =>
      split at hc
      · rename_i y hargs hty
        simp only [Option.map_eq_some_iff] at hc
        obtain ⟨y1, hy, rfl⟩ := hc
        simp only [Option.bind_eq_some_iff] at hty
        obtain ⟨t, ht, htu⟩ := hty
        exact y_lens hpre ho rfl (by apply Array.ext'; simpa using hargs) ht htu hy rfl hp
      · rename_i y e hargs hty
        simp only [Option.map_eq_some_iff] at hc
        obtain ⟨y1, hy, rfl⟩ := hc
        simp only [Option.bind_eq_some_iff] at hty
        obtain ⟨t, ht, htu⟩ := hty
        exact y_len hpre ho rfl (by apply Array.ext'; simpa using hargs) ht htu hy rfl hp
      · rename_i y n e hargs hty
        simp only [Option.some.injEq] at hc
        subst hc
        simp only [pureI, Option.some.injEq, Prod.mk.injEq] at hp
        obtain ⟨_, rfl⟩ := hp
        simp only [Option.bind_eq_some_iff] at hty
        obtain ⟨t, ht, htu⟩ := hty
        have hargs' : args = #[y] := by apply Array.ext'; simpa using hargs
        subst hargs'
        refine .same (v := .int .i64 n) ?_ (.int _ _)
        simp [execOp, ho, resolve, invoke, builtin, Builtin.len_, ht, run_underlying htu, goInt]
      · simp at hc
    case cap =>
      split at hc
      · rename_i y e hargs hty
        simp only [Option.map_eq_some_iff] at hc
        obtain ⟨y1, hy, rfl⟩ := hc
        simp only [Option.bind_eq_some_iff] at hty
        obtain ⟨t, ht, htu⟩ := hty
        exact y_cap hpre ho rfl (by apply Array.ext'; simpa using hargs) ht htu hy rfl hp
      · simp at hc
    case max =>
      split at hc
      · rename_i y z hargs
        simp only [Option.bind_eq_bind, Option.bind_eq_some_iff, Option.some.injEq] at hc
        obtain ⟨y1, hy, z1, hz, rfl⟩ := hc
        exact y_mx hpre ho rfl (by apply Array.ext'; simpa using hargs) hy hz rfl hp hs
      · simp at hc
    case min =>
      split at hc
      · rename_i y z hargs
        simp only [Option.bind_eq_bind, Option.bind_eq_some_iff, Option.some.injEq] at hc
        obtain ⟨y1, hy, z1, hz, rfl⟩ := hc
        exact y_mn hpre ho rfl (by apply Array.ext'; simpa using hargs) hy hz rfl hp hs
      · simp at hc
    case append =>
      split at hc
      · split at hc
        · simp at hc
        · simp only [Option.bind_eq_bind, Option.bind_eq_some_iff, Option.some.injEq] at hc
          obtain ⟨_, _, _, _, rfl⟩ := hc
          simp [pureI] at hp
      · split at hc
        · simp at hc
        · simp only [Option.bind_eq_bind, Option.bind_eq_some_iff, Option.some.injEq] at hc
          obtain ⟨_, _, _, _, rfl⟩ := hc
          simp [pureI] at hp
      · split at hc
        · simp at hc
        · simp only [Option.bind_eq_bind, Option.bind_eq_some_iff, Option.some.injEq] at hc
          obtain ⟨_, _, _, _, _, _, rfl⟩ := hc
          simp [pureI] at hp
      · simp at hc
    case copy =>
      split at hc
      · simp only [Option.bind_eq_bind, Option.bind_eq_some_iff, Option.some.injEq] at hc
        obtain ⟨_, _, _, _, rfl⟩ := hc
        simp [pureI] at hp
      · simp at hc
    case clear =>
      split at hc
      · simp only [Option.bind_eq_bind, Option.bind_eq_some_iff, Option.some.injEq] at hc
        obtain ⟨_, _, _, _, rfl⟩ := hc
        simp [pureI] at hp
      · simp at hc

theorem y_binop (hpre : Pre Γ T σ τ w a) {op : BinOp} {t t' : TypeId} {y z : Operand} (ho : o.op = .binOp op t y z t') (hc : compI P o = some i) (hp : pureI σ (ev Γ T) i = some (p, x)) (hs : p) (hne : ∀ neg ks u v, i ≠ .eqa neg ks u v) : Yields P o a w (own (cup σ τ)) x := by
  have bin : ∀ op' , (do some (I.bin op' (← opd y) (← opd z))) = some i → op' = op → Yields P o a w (own (cup σ τ)) x := by
    intro op' h he
    subst he
    simp only [Option.bind_eq_bind, Option.bind_eq_some_iff, Option.some.injEq] at h
    obtain ⟨y1, hy, z1, hz, rfl⟩ := h
    exact y_bin hpre ho hy hz rfl hp hs
  simp only [compI, ho] at hc
  split at hc
  · split at hc
    · simp only [Option.bind_eq_bind, Option.bind_eq_some_iff, Option.some.injEq] at hc
      obtain ⟨_, _, y1, hy, z1, hz, rfl⟩ := hc
      exact absurd rfl (hne _ _ _ _)
    · simp at hc
  · split at hc
    · simp only [Option.bind_eq_bind, Option.bind_eq_some_iff, Option.some.injEq] at hc
      obtain ⟨_, _, y1, hy, z1, hz, rfl⟩ := hc
      exact absurd rfl (hne _ _ _ _)
    · simp at hc
  · rename_i ht
    simp only [Option.bind_eq_bind, Option.bind_eq_some_iff, Option.some.injEq] at hc
    obtain ⟨y1, hy, z1, hz, rfl⟩ := hc
    exact y_eqb hpre (neg := false) rfl ho ht hy hz rfl hp
  · rename_i ht
    simp only [Option.bind_eq_bind, Option.bind_eq_some_iff, Option.some.injEq] at hc
    obtain ⟨y1, hy, z1, hz, rfl⟩ := hc
    exact y_eqb hpre (neg := true) rfl ho ht hy hz rfl hp
  · rename_i e ht
    simp only [Option.bind_eq_bind, Option.bind_eq_some_iff, Option.some.injEq] at hc
    obtain ⟨y1, hy, z1, hz, rfl⟩ := hc
    exact y_eqp hpre (neg := false) rfl ho ht hy hz rfl hp
  · rename_i e ht
    simp only [Option.bind_eq_bind, Option.bind_eq_some_iff, Option.some.injEq] at hc
    obtain ⟨y1, hy, z1, hz, rfl⟩ := hc
    exact y_eqp hpre (neg := true) rfl ho ht hy hz rfl hp
  · split at hc
    · simp only [Option.map_eq_some_iff] at hc
      obtain ⟨_, _, rfl⟩ := hc
      simp [pureI] at hp
    · simp at hc
  · split at hc
    · simp only [Option.map_eq_some_iff] at hc
      obtain ⟨_, _, rfl⟩ := hc
      simp [pureI] at hp
    · simp at hc
  · exact bin _ hc rfl
  · exact bin _ hc rfl
  · simp at hc

theorem u8of_some : ∀ {xs : List V} {bs : List UInt8}, u8of xs = some bs → xs = bs.map fun c => .int .u8 (c.toNat : Int) := by
  intro xs
  induction xs with
  | nil => intro bs h; simp [u8of] at h; subst h; rfl
  | cons x r ih =>
    intro bs h
    unfold u8of at h
    split at h
    · simp at *
    · rename_i n r' heq
      injection heq with h1 h2
      subst h1 h2
      split at h
      · rename_i hn
        simp only [Option.map_eq_some_iff] at h
        obtain ⟨b2, h3, rfl⟩ := h
        rw [ih h3]
        simp only [List.map_cons, List.cons.injEq, and_true, V.int.injEq, true_and]
        rw [UInt8.toNat_ofNat']
        omega
      · cases h
    · cases h
theorem strOf_u8' (bs : List UInt8) : strOfNums (bs.map fun c => (c.toNat : Int)) = ⟨bs.toArray⟩ := by
  unfold strOfNums
  rw [List.map_map]
  have : bs.map ((fun n : Int => UInt8.ofNat n.toNat) ∘ fun c : UInt8 => (c.toNat : Int)) = bs := by
    conv => rhs; rw [← List.map_id bs]
    refine List.map_congr_left fun c _ => ?_
    simp
  rw [this]
theorem flat_u8' (bs : List UInt8) : flat (bs.map fun c => (V.int .u8 (c.toNat : Int))) = bs.map fun c => .int .u8 (c.toNat : Int) := by
  induction bs with
  | nil => rfl
  | cons b r ih => simp only [List.map_cons, flat, List.flatMap_cons, V.cells] at ih ⊢; rw [ih]; rfl
theorem mem_u8' {w : World} {O : Nat → Prop} {bs : List UInt8} {b off : Nat} (h : Mem w O (bs.map fun c => (V.int .u8 (c.toNat : Int))) b off) : ∀ i, i < bs.length → w.cell? ⟨b, off + i, none⟩ = some (.int .u8 ((bs.map fun c => (c.toNat : Int)).getD i 0)) := by
  intro i hi
  have hg : (bs.map fun c => (V.int .u8 (c.toNat : Int)))[i]? = some (.int .u8 ((bs[i].toNat : Nat) : Int)) := by simp [hi]
  obtain ⟨_, v, h1, h2⟩ := h i _ hg
  rw [h1]
  cases h2
  simp [List.getD, hi]
theorem y_b2s (hpre : Pre Γ T σ τ w a) {s d e : TypeId} {y : Operand} {y1 : Opd} (ho : o.op = .convert s d y) (hs' : P.underlying s = some (.slice e)) (hd : P.underlying d = some .string) (he : P.underlying e = some (.int .u8)) (hy : opd y = some y1) (hi : i = .b2s y1)
    (hp : pureI σ (ev Γ T) i = some (p, x)) : Yields P o a w (own (cup σ τ)) x := by
  subst hi
  simp only [pureI] at hp
  have r1 := ev_rep hpre hy
  generalize ev Γ T y1 = v at *
  cases v with
  | isl ex es xs =>
    simp only at hp
    split at hp
    · rename_i hes
      subst hes
      simp only [Option.map_eq_some_iff, Prod.mk.injEq] at hp
      obtain ⟨bs, hbs, _, rfl⟩ := hp
      have hx := u8of_some hbs
      subst hx
      refine .same (v := .string ⟨bs.toArray⟩) ?_ (.str _)
      simp only [execOp, ho]
      refine run_v ?_
      by_cases hn : bs = []
      · subst hn
        obtain ⟨u, c, hv, _⟩ := r1.isl_len
        rw [hv]
        cases u with
        | none => exact run_convert_bytes_nil w s e hs' he _ _ d hd
        | some ad =>
          rw [run_convert_bytes_string w s d e _ _ _ hs' he hd]
          exact run_bytesToString w ad 0 c [] (by simp [loadCells, Sem.run_pure] <;> rfl)
      · obtain ⟨b, off, c, hv, h1, h2, h3, h4, h5, h6⟩ := r1.isl_mem (by simp [hn])
        rw [flat_u8'] at h6
        rw [hv, List.length_map, run_convert_bytes_arg w s e hs' he b off bs.length c (bs.map fun c => (c.toNat : Int)) (by simp) (mem_u8' h6) d hd, strOf_u8']
    · cases hp
  | _ => simp at hp
/-- An array of a package variable that becomes a slice. -/
theorem y_sla (hpre : Pre Γ T σ τ w a) {t e : TypeId} {m : Nat} {y : Operand} {y1 : Opd} (ho : o.op = .slice t y none none none) (ht : P.underlying t = some (.array m e)) (hy : opd y = some y1) (hi : i = .sla m (P.cellsOf e) y1)
    (hp : pureI σ (ev Γ T) i = some (p, x)) (hs : p) : Yields P o a w (own (cup σ τ)) x := by
  subst hi
  simp only [pureI] at hp
  have r1 := ev_rep hpre hy
  generalize ev Γ T y1 = v at *
  cases v with
  | iptr cs =>
    simp only at hp
    split at hp
    · rename_i he
      simp only [Option.some.injEq, Prod.mk.injEq] at hp
      obtain ⟨rfl, rfl⟩ := hp
      obtain ⟨b, off, e1, hbl, hno, hm⟩ := rep_iptr_inv r1
      have hit : ∃ it, P.info? e = some it := by
        cases hi : P.info? e with
        | none => simp [Program.cellsOf, hi] at he
        | some it => exact ⟨it, rfl⟩
      obtain ⟨it, hit⟩ := hit
      have h1 : ∀ c ∈ cs, c.cells = [c] := by
        intro c hc
        obtain ⟨j, hj⟩ := List.getElem?_of_mem hc
        have := (hm j c hj).1
        cases c <;> first | rfl | (simp [V.one] at this)
      have hf : ∀ {l : List V}, (∀ c ∈ l, c.cells = [c]) → flat l = l := by
        intro l
        induction l with
        | nil => intro _; rfl
        | cons c r ih => intro h1; simp only [flat, List.flatMap_cons] at ih ⊢; rw [h1 c (List.mem_cons_self ..), ih (fun d hd => h1 d (List.mem_cons_of_mem _ hd))]; rfl
      subst hs
      refine .same (v := .slice (some ⟨b, off, none⟩) cs.length cs.length) ?_ (((hf h1).symm ▸ hm : Mem w _ (flat cs) b off).isl hbl hno (Nat.le_refl _) (fun _ => rfl) (fun c hc => by rw [h1 c hc]; rfl))
      simp [execOp, ho, e1, Instr.sliceAt, run_underlying ht, Instr.sureAddr, Instr.sliceBounds, run_sizeOf hit, addr_add]
    · cases hp
  | _ => simp at hp
/-- The pure instructions but those that build and compare structs. -/
theorem pure_ok (hpre : Pre Γ T σ τ w a) (hc : compI P o = some i) (hp : pureI σ (ev Γ T) i = some (p, x)) (hs : p) (hne : ∀ neg ks u v, i ≠ .eqa neg ks u v) (hnb : ∀ z ps, i ≠ .build z ps) (hnr : ∀ es n zv ps, i ≠ .bsl es n zv ps) : Yields P o a w (own (cup σ τ)) x := by
  cases ho : o.op with
  | move y => exact y_move hpre (.inl ho) hc hp
  | assign y => exact y_move hpre (.inr ho) hc hp
  | pick c y z => exact y_pick hpre ho hc hp
  | load t y =>
    have hc2 := hc
    simp only [compI, ho] at hc2
    split at hc2
    · rename_i h; exact y_load hpre ho (okT_some h) (by simpa [compI, ho, h] using hc2) hp hs
    · simp at hc2
  | nilCheck y => exact y_nilck hpre ho hc hp
  | binOp op t y z t' => exact y_binop hpre ho hc hp hs hne
  | unOp op t y => exact y_un hpre ho hc hp
  | convert s d y =>
    simp only [compI, ho] at hc
    split at hc
    · rename_i k k' hs' hd
      simp only [Option.map_eq_some_iff] at hc
      obtain ⟨y1, hy, rfl⟩ := hc
      exact y_i2i hpre ho hs' hd hy rfl hp
    · rename_i e h1 h2
      split at hc
      · rename_i he
        rw [if_pos rfl] at hc
        simp only [Option.map_eq_some_iff] at hc
        obtain ⟨y1, hy, rfl⟩ := hc
        exact y_b2s hpre ho h1 h2 he hy rfl hp
      · simp at hc
    all_goals (repeat' split at hc) <;> first | (simp at hc; done) | (simp only [Option.map_eq_some_iff] at hc; obtain ⟨_, _, rfl⟩ := hc; simp [pureI] at hp; done)
  | makeFunc fn first cs =>
    cases fn with
    | func f => exact y_mkfn hpre ho hc hp
    | _ => simp [compI, ho] at hc
  | slice t y lo hi mx =>
    simp only [compI, ho] at hc
    split at hc
    · rename_i e ht
      split at hc
      · rename_i hok
        simp only [Bool.and_eq_true, Bool.or_eq_true] at hok
        simp only [Option.bind_eq_bind, Option.bind_eq_some_iff, Option.some.injEq] at hc
        obtain ⟨y1, hy, lo1, hlo, hi1, hhi, mx1, hmx, rfl⟩ := hc
        refine y_sl hpre ho ht (okT_info hok.1) hy hlo hhi hmx ?_ rfl hp hs
        rcases hok.2 with h | h
        · exact .inl (by simpa using h)
        · exact .inr (by intro h0; subst h0; simp at h)
      · simp at hc
    · rename_i ht
      split at hc
      · simp only [Option.bind_eq_bind, Option.bind_eq_some_iff, Option.some.injEq] at hc
        obtain ⟨y1, hy, lo1, hlo, hi1, hhi, rfl⟩ := hc
        exact y_sls hpre ho ht hy hlo hhi rfl hp hs
      · simp at hc
    · rename_i n e ht
      split at hc
      · simp only [Option.bind_eq_bind, Option.bind_eq_some_iff, Option.some.injEq] at hc
        obtain ⟨y1, hy, rfl⟩ := hc
        exact y_sla hpre ho ht hy rfl hp hs
      · simp at hc
    · simp at hc
  | fieldAddr s y f => exact y_faddr hpre ho hc hp
  | field s y f =>
    refine y_field hpre ho (fun fs fd hfs hfd => ?_) ?_ hp hs
    · simp only [compI, ho, hfs, hfd, Option.bind_eq_bind, Option.bind_some] at hc
      split at hc
      · simp at hc
      · rename_i h; exact okT_some (by simpa using h)
    · exact hc
  | indexAddr t y z =>
    simp only [compI, ho] at hc
    split at hc
    · rename_i e ht
      split at hc
      · rename_i hok
        simp only [Option.bind_eq_bind, Option.bind_eq_some_iff, Option.some.injEq] at hc
        obtain ⟨y1, hy, z1, hz, rfl⟩ := hc
        exact y_iaddr hpre ho ht (okT_info hok) hy hz rfl hp hs
      · simp at hc
    · rename_i n e ht
      split at hc
      · rename_i hok
        simp only [Option.bind_eq_bind, Option.bind_eq_some_iff, Option.some.injEq] at hc
        obtain ⟨y1, hy, z1, hz, rfl⟩ := hc
        exact y_iaddrA hpre ho ht (okT_info hok) hy hz rfl hp hs
      · simp at hc
    · simp at hc
  | index t y z =>
    simp only [compI, ho] at hc
    split at hc
    · rename_i ht
      simp only [Option.bind_eq_bind, Option.bind_eq_some_iff, Option.some.injEq] at hc
      obtain ⟨y1, hy, z1, hz, rfl⟩ := hc
      exact y_idxs hpre ho ht hy hz rfl hp hs
    · rename_i n e ht
      split at hc
      · rename_i hok
        obtain ⟨d, hd⟩ := okT_some hok
        simp only [Option.bind_eq_bind, Option.bind_eq_some_iff, Option.some.injEq] at hc
        obtain ⟨y1, hy, z1, hz, rfl⟩ := hc
        exact y_idxA hpre ho ht hd hy hz rfl hp hs
      · simp at hc
    · simp at hc
  | extract y n => exact y_ext hpre ho hc hp hs
  | call c => exact y_call hpre ho hc hp hs
  | build t ps =>
    simp only [compI, ho] at hc
    split at hc
    · simp only [Option.bind_eq_bind, Option.bind_eq_some_iff] at hc
      obtain ⟨_, _, hc⟩ := hc
      split at hc
      · simp only [Option.bind_eq_some_iff, Option.some.injEq] at hc
        obtain ⟨_, _, rfl⟩ := hc
        exact absurd rfl (hnb _ _)
      · simp at hc
    · simp at hc
  | buildSlice t n ps =>
    simp only [compI, ho] at hc
    split at hc
    · simp only [Option.bind_eq_bind, Option.bind_eq_some_iff] at hc
      obtain ⟨_, _, hc⟩ := hc
      split at hc
      · simp only [Option.bind_eq_some_iff, Option.some.injEq] at hc
        obtain ⟨_, _, rfl⟩ := hc
        exact absurd rfl (hnr _ _ _ _)
      · simp at hc
    · simp at hc
  | alloc e =>
    simp only [compI, ho, Option.map_eq_some_iff] at hc
    obtain ⟨_, _, rfl⟩ := hc
    simp [pureI] at hp
  | box e y =>
    simp only [compI, ho] at hc
    split at hc
    · simp only [Option.map_eq_some_iff] at hc
      obtain ⟨_, _, rfl⟩ := hc
      simp [pureI] at hp
    · simp at hc
  | store t y z =>
    simp only [compI, ho] at hc
    split at hc
    · simp only [Option.bind_eq_bind, Option.bind_eq_some_iff, Option.some.injEq] at hc
      obtain ⟨_, _, _, _, rfl⟩ := hc
      simp [pureI] at hp
    · simp at hc
  | makeSlice t l c =>
    simp only [compI, ho] at hc
    split at hc
    · simp only [Option.bind_eq_bind, Option.bind_eq_some_iff, Option.some.injEq] at hc
      obtain ⟨_, _, _, _, _, _, rfl⟩ := hc
      simp [pureI] at hp
    · simp at hc
  | _ => simp [compI, ho] at hc

end
end Go.Proofs.YtjibkkhgejcjeaaGreatDoor.Lg
