/- The own logic: regions that draw the order of their operations. It holds for every program. -/
import Derived.Test.YtdenfjbhkdhlkaaLgX
import Derived.Orders
set_option linter.unusedSimpArgs false
set_option linter.unusedVariables false
namespace Go.Proofs.Ytdenfjbhkdhlkaa.Lg
open Go

section
variable (P : Program) (Γ : St)

/-- What only reads: its value. -/
def RdF (σr : St) (T : Ts) (g : GI) (x : V) : Prop :=
  (guardV Γ T g = some false ∧ x = .tup []) ∨ (guardV Γ T g = some true ∧ ∃ p, pureI σr (ev Γ T) g.i = some (p, x) ∧ p)
/-- What writes: its outcome, wherever its operands are the same. -/
def WrF (σ : St) (T : Ts) (g : GI) (G : V → St → Prop) : Prop :=
  (guardV Γ T g = some false ∧ G (.tup []) σ) ∨ (guardV Γ T g = some true ∧ ∀ T', (∀ t ∈ g.tmps, look T' t = look T t) → InsOK P Γ g.i T' σ G)

/-- What writes, and may read of what stands beside it. -/
def WrA (σr σ : St) (T : Ts) (g : GI) (G : V → St → Prop) : Prop :=
  WrF P Γ σ T g G ∨ (guardV Γ T g = some true ∧ ∀ T', (∀ t ∈ g.tmps, look T' t = look T t) → disj σ σr → InsOK P Γ g.i T' (cup σ σr) fun x s => ∃ s', s = cup s' σr ∧ disj s' σr ∧ G x s')

def DS (σr : St) : DT → Ts → St → (Ts → St → Prop) → Prop
  | .nil, T, σ, K => K T σ
  | .rd g r, T, σ, K => ∃ x, RdF Γ σr T g x ∧ DS σr r (putT T g.d x) σ K
  | .wr g r alt, T, σ, K => (∃ G, WrA P Γ σr σ T g G ∧ ∀ x s, G x s → disj s σr → DS σr r (putT T g.d x) s K) ∧ DS σr alt T σ K
  | .no, _, _, _ => True
def DWs : List DT → Ts → St → (Ts → St → Prop) → Prop
  | [], T, σ, K => K T σ
  | t :: r, T, σ, K => ∃ σw σr, disj σw σr ∧ σ = cup σw σr ∧ DS P Γ σr t T σw (fun T s => DWs r T (cup s σr) K)

variable {P Γ}

theorem look_putT (T : Ts) (d : Option Nat) (x : V) (t : Nat) : look (putT T d x) t = if d = some t then x else look T t := by
  cases d with
  | none => simp [putT]
  | some u => simp [putT, look]

theorem sub_congr {e e' : Opd → V} (i : I) (h : ∀ o ∈ i.opds, e o = e' o) : i.sub e = i.sub e' := by
  cases i <;> simp only [I.opds, List.mem_cons, List.not_mem_nil, or_false, forall_eq_or_imp, forall_eq, List.mem_append, List.mem_map, Option.mem_toList] at h <;> simp only [I.sub]
  case mv x => rw [h]
  case pick c a b => rw [h.1, h.2.1, h.2.2]
  case box n x => rw [h]
  case build z ps => congr 1; exact List.map_congr_left fun q hq => by rw [h _ ⟨q, hq, rfl⟩]
  case bsl es n zv ps => congr 1; exact List.map_congr_left fun q hq => by rw [h _ ⟨q, hq, rfl⟩]
  case mkfn f cs => congr 1; exact List.map_congr_left fun q hq => by rw [h _ hq]
  case sl es x lo hi m3 =>
    rw [h.1]
    have h1 : lo.map (fun y => Opd.c (e y)) = lo.map (fun y => Opd.c (e' y)) := by
      cases lo with
      | none => rfl
      | some q => simp [h.2 q (by simp)]
    have h2 : hi.map (fun y => Opd.c (e y)) = hi.map (fun y => Opd.c (e' y)) := by
      cases hi with
      | none => rfl
      | some q => simp [h.2 q (by simp)]
    have h3 : m3.map (fun y => Opd.c (e y)) = m3.map (fun y => Opd.c (e' y)) := by
      cases m3 with
      | none => rfl
      | some q => simp [h.2 q (by simp)]
    rw [h1, h2, h3]
  case sls x lo hi =>
    rw [h.1]
    have h1 : lo.map (fun y => Opd.c (e y)) = lo.map (fun y => Opd.c (e' y)) := by
      cases lo with
      | none => rfl
      | some q => simp [h.2 q (by simp)]
    have h2 : hi.map (fun y => Opd.c (e y)) = hi.map (fun y => Opd.c (e' y)) := by
      cases hi with
      | none => rfl
      | some q => simp [h.2 q (by simp)]
    rw [h1, h2]
  case call f as => rw [h.1]; congr 1; exact List.map_congr_left fun q hq => by rw [h.2 _ hq]
  all_goals first | rfl | (rw [h.1, h.2]) | (rw [h])

theorem pureI_congr {σ : St} {e e' : Opd → V} (i : I) (h : ∀ o ∈ i.opds, e o = e' o) : pureI σ e i = pureI σ e' i := by
  rw [← pureI_sub σ e, ← pureI_sub σ e', sub_congr i h]

theorem pureI_mono {σ σ' : St} {e : Opd → V} {i : I} (hs : ∀ b cs, σ b = some cs → σ' b = some cs) {r : Prop × V} (h : pureI σ e i = some r) : pureI σ' e i = some r := by
  cases i
  case load ag n a =>
    simp only [pureI] at h ⊢
    split at h
    · rename_i b off hb
      split at h
      · rename_i cs hcs
        simp only [hs _ _ hcs]; exact h
      · simp at h
    · exact h
    · simp at h
  all_goals exact h

theorem ev_congr {T T' : Ts} {g : GI} (h : ∀ t ∈ g.tmps, look T' t = look T t) : ∀ o ∈ g.i.opds, ev Γ T' o = ev Γ T o := by
  intro o ho
  cases o with
  | t n => exact h n (by simp only [GI.tmps, List.mem_append, List.mem_filterMap]; exact .inl ⟨_, ho, rfl⟩)
  | _ => rfl
theorem guardV_congr {T T' : Ts} {g : GI} (h : ∀ t ∈ g.tmps, look T' t = look T t) : guardV Γ T' g = guardV Γ T g := by
  unfold guardV
  cases hg : g.g with
  | none => rfl
  | some q =>
    obtain ⟨t, want⟩ := q
    simp only
    rw [h t (by simp [GI.tmps, hg])]
theorem RdF.congr {σr : St} {T T' : Ts} {g : GI} {x : V} (h : ∀ t ∈ g.tmps, look T' t = look T t) (hf : RdF Γ σr T g x) : RdF Γ σr T' g x := by
  rcases hf with ⟨h1, h2⟩ | ⟨h1, p, h2, h3⟩
  · exact .inl ⟨by rw [guardV_congr h]; exact h1, h2⟩
  · exact .inr ⟨by rw [guardV_congr h]; exact h1, p, by rw [pureI_congr g.i (ev_congr h)]; exact h2, h3⟩

theorem cup_assoc (a b c : St) : cup (cup a b) c = cup a (cup b c) := by
  funext n; simp only [cup]; cases a n <;> rfl
theorem disj_cup_left {a b c : St} (h : disj (cup a b) c) (hab : disj a b) : disj a (cup b c) := by
  intro n
  have h1 := h n; have h2 := hab n
  unfold cup at *
  cases ha : a n with
  | none => exact .inl rfl
  | some x => rw [ha] at h1 h2; simp at h1 h2; exact .inr (by rw [h2]; exact h1)
theorem disj_cup_right {a b c : St} (h : disj a (cup b c)) (hbc : disj b c) : disj (cup a b) c ∧ disj a b := by
  refine ⟨fun n => ?_, fun n => ?_⟩
  · have h1 := h n; have h2 := hbc n
    unfold cup at *
    cases ha : a n with
    | none => simp only; exact h2
    | some x => rw [ha] at h1; simp at h1; cases hb : b n with | none => rw [hb] at h1; exact .inr h1 | some y => rw [hb] at h1; simp at h1
  · have h1 := h n
    unfold cup at h1
    cases ha : a n with
    | none => exact .inl rfl
    | some x => rw [ha] at h1; simp at h1; cases hb : b n with | none => exact .inr rfl | some y => rw [hb] at h1; simp at h1

/-- An instruction leaves be what is owned beside. -/
theorem InsOK.frame {i : I} {T : Ts} {σ σr : St} {G : V → St → Prop} (hd : disj σ σr) (h : InsOK P Γ i T σ G) : InsOK P Γ i T (cup σ σr) (fun x s => ∃ s', s = cup s' σr ∧ disj s' σr ∧ G x s') := by
  intro o hc τ w a hp
  have hd2 : disj σr τ := by
    intro n
    have h1 := hp.dj n; have h2 := hd n
    unfold cup at h1
    cases ha : σ n with
    | none => rw [ha] at h1; exact h1
    | some x => rw [ha] at h2; simp at h2; exact .inl h2
  have hp' : Pre Γ T σ (cup σr τ) w a := ⟨disj_cup_left hp.dj hd, by rw [← cup_assoc]; exact hp.sim, by rw [← cup_assoc]; exact hp.glob, by rw [← cup_assoc]; exact hp.kn⟩
  refine Oper.wp_mono ?_ (h o hc (cup σr τ) w a hp')
  rintro a' w' ⟨x, v, s', rfl, hG, h1, h2, h3, h4⟩
  obtain ⟨h5, h6⟩ := disj_cup_right h1 hd2
  exact ⟨x, v, cup s' σr, rfl, ⟨s', rfl, h6, hG⟩, h5, by rw [cup_assoc]; exact h2, by rw [cup_assoc]; exact h3, by rw [cup_assoc, cup_assoc]; exact h4⟩

variable {f : FuncId} {n : Nat} {k : List It} {Q : V → St → Prop}

theorem SRun.congr {T T' : Ts} {σ : St} (hl : ∀ t, look T t = look T' t) (h : SRun P Γ f n k T' σ Q) : SRun P Γ f n k T σ Q :=
  fun todo hr τ w a cs hd hs hp => h todo hr τ w a cs hd hs ⟨hp.dj, hp.sim, hp.glob, fun m => by rw [← hl m]; exact hp.kn m⟩

/-! The order as it is drawn, against the parts -/
variable (gs : List GI) (ms : List Nat)

def addT (T0 : Ts) : List (Nat × V) → Ts
  | [] => T0
  | (j, x) :: r => putT (addT T0 r) (gAt gs j).d x
variable (Γ) in
def Facts (T0 : Ts) (σr : St) (a : List Nat) : List (Nat × V) → Prop
  | [] => True
  | (j, x) :: r => (j ∈ a ∨ ((gAt gs j).i.wri = false ∧ RdF Γ σr (addT gs T0 r) (gAt gs j) x)) ∧ Facts T0 σr a r
def PClosed : List (Nat × V) → Prop
  | [] => True
  | (j, _) :: r => (∀ i, ancs ms j i = true → i ∈ r.map Prod.fst) ∧ PClosed r

variable {gs ms}

theorem addT_none {T0 : Ts} {t : Nat} : ∀ {pl : List (Nat × V)}, (∀ q ∈ pl, (gAt gs q.1).d ≠ some t) → look (addT gs T0 pl) t = look T0 t := by
  intro pl
  induction pl with
  | nil => intro _; rfl
  | cons q r ih =>
    intro h
    obtain ⟨j, x⟩ := q
    simp only [addT, look_putT]
    rw [if_neg (h (j, x) (by simp)), ih (fun q hq => h q (by simp [hq]))]
theorem addT_some {T0 : Ts} {t : Nat} {x : V} : ∀ {pl : List (Nat × V)}, (∃ q ∈ pl, (gAt gs q.1).d = some t) → (∀ q ∈ pl, (gAt gs q.1).d = some t → q.2 = x) → look (addT gs T0 pl) t = x := by
  intro pl
  induction pl with
  | nil => intro h; obtain ⟨q, hq, _⟩ := h; simp at hq
  | cons q r ih =>
    intro h hu
    obtain ⟨j, y⟩ := q
    simp only [addT, look_putT]
    by_cases hj : (gAt gs j).d = some t
    · rw [if_pos hj]; exact hu (j, y) (by simp) hj
    · rw [if_neg hj]
      obtain ⟨q, hq, hd⟩ := h
      rcases List.mem_cons.1 hq with rfl | hq
      · exact absurd hd hj
      · exact ih ⟨q, hq, hd⟩ (fun q hq hd => hu q (by simp [hq]) hd)

def exd (a : List Nat) (pl : List (Nat × V)) : List (Nat × V) := pl.filter (fun q => a.contains q.1)
theorem mem_exd {a : List Nat} {pl : List (Nat × V)} {q : Nat × V} : q ∈ exd a pl ↔ q ∈ pl ∧ q.1 ∈ a := by simp [exd]

theorem addT_exd_app {T0 : Ts} {a : List Nat} {j t : Nat} (hj : (gAt gs j).d ≠ some t) : ∀ {pl : List (Nat × V)}, look (addT gs T0 (exd (a ++ [j]) pl)) t = look (addT gs T0 (exd a pl)) t := by
  intro pl
  induction pl with
  | nil => rfl
  | cons q r ih =>
    obtain ⟨i, x⟩ := q
    by_cases hi : i ∈ a
    · have h1 : exd (a ++ [j]) ((i, x) :: r) = (i, x) :: exd (a ++ [j]) r := by simp [exd, hi]
      have h2 : exd a ((i, x) :: r) = (i, x) :: exd a r := by simp [exd, hi]
      rw [h1, h2]; simp only [addT, look_putT, ih]
    · have h2 : exd a ((i, x) :: r) = exd a r := by simp [exd, hi]
      by_cases hij : i = j
      · subst hij
        have h1 : exd (a ++ [i]) ((i, x) :: r) = (i, x) :: exd (a ++ [i]) r := by simp [exd]
        rw [h1, h2]; simp only [addT, look_putT]; rw [if_neg hj, ih]
      · have h1 : exd (a ++ [j]) ((i, x) :: r) = exd (a ++ [j]) r := by simp [exd, hi, hij]
        rw [h1, h2, ih]

/-- What the check of a region has found. -/
structure DOK (gs : List GI) (ms : List Nat) (N : Nat) : Prop where
  uni : ∀ i j t, i < N → j < N → (gAt gs i).d = some t → (gAt gs j).d = some t → i = j
  ops : ∀ i j t, i < N → j < N → i ≠ j → (gAt gs i).d = some t → t ∈ (gAt gs j).tmps → ancs ms j i = true ∨ ancs ms i j = true
  lt : ∀ i j, ancs ms j i = true → i < N

theorem PClosed.mem {pl : List (Nat × V)} (h : PClosed ms pl) {j i : Nat} (hj : j ∈ pl.map Prod.fst) (ha : ancs ms j i = true) : i ∈ pl.map Prod.fst := by
  induction pl with
  | nil => simp at hj
  | cons q r ih =>
    obtain ⟨u, x⟩ := q
    simp only [List.map_cons, List.mem_cons] at hj ⊢
    rcases hj with rfl | hj
    · exact .inr (h.1 i ha)
    · exact .inr (ih h.2 hj)

theorem agree {N : Nat} (hD : DOK gs ms N) {T0 : Ts} {a : List Nat} {pl p1 r : List (Nat × V)} (hpl : pl = p1 ++ r) (hn : (pl.map Prod.fst).Nodup) (hlt : ∀ q ∈ pl, q.1 < N) (hc : PClosed ms r) {j : Nat} (hj : j < N) (hja : j ∉ a)
    (hja2 : ∀ i, ancs ms j i = true → i ∈ a) (hjr : ∀ i, ancs ms j i = true → i ∈ r.map Prod.fst) (hjn : j ∉ r.map Prod.fst) (hdown : ∀ i ∈ a, ∀ q, ancs ms i q = true → q ∈ a) {t : Nat} (ht : t ∈ (gAt gs j).tmps) :
    look (addT gs T0 (exd a pl)) t = look (addT gs T0 r) t := by
  have hsub : ∀ q ∈ r, q ∈ pl := fun q hq => by rw [hpl]; simp [hq]
  by_cases hex : ∃ q ∈ pl, (gAt gs q.1).d = some t
  · obtain ⟨⟨i, x⟩, hq, hd⟩ := hex
    simp only at hd
    have hu : ∀ q ∈ pl, (gAt gs q.1).d = some t → q.1 = i := fun q hq2 hd2 => hD.uni _ _ t (hlt q hq2) (hlt _ hq) hd2 hd
    have hval : ∀ q ∈ pl, (gAt gs q.1).d = some t → q.2 = x := by
      intro q hq2 hd2
      have he := hu q hq2 hd2
      obtain ⟨i', x'⟩ := q
      simp only at he; subst he
      -- two entries of one number
      have : ∀ {l : List (Nat × V)}, (l.map Prod.fst).Nodup → (i', x') ∈ l → (i', x) ∈ l → x' = x := by
        intro l
        induction l with
        | nil => intro _ h; simp at h
        | cons z l ih =>
          intro hnd h1 h2
          simp only [List.map_cons, List.nodup_cons] at hnd
          rcases List.mem_cons.1 h1 with e1 | h1
          · rcases List.mem_cons.1 h2 with e2 | h2
            · exact congrArg Prod.snd (e1.trans e2.symm)
            · exact absurd (List.mem_map.2 ⟨_, h2, by rw [← e1]⟩) hnd.1
          · rcases List.mem_cons.1 h2 with e2 | h2
            · exact absurd (List.mem_map.2 ⟨_, h1, by rw [← e2]⟩) hnd.1
            · exact ih hnd.2 h1 h2
      exact this hn hq2 hq
    have none2 : i ∉ a → i ∉ r.map Prod.fst → look (addT gs T0 (exd a pl)) t = look (addT gs T0 r) t := by
      intro h1 h2
      rw [addT_none, addT_none]
      · intro q hq2 hd2; have := hu q (hsub q hq2) hd2; exact h2 (this ▸ List.mem_map.2 ⟨q, hq2, rfl⟩)
      · intro q hq2 hd2; obtain ⟨h3, h4⟩ := mem_exd.1 hq2; have := hu q h3 hd2; exact h1 (this ▸ h4)
    by_cases hij : i = j
    · subst hij; exact none2 hja hjn
    · rcases hD.ops i j t (hlt _ hq) hj hij hd ht with h1 | h1
      · have hia := hja2 i h1
        obtain ⟨q, hq2, he⟩ := List.mem_map.1 (hjr i h1)
        rw [addT_some (x := x) ⟨(i, x), mem_exd.2 ⟨hq, hia⟩, hd⟩ (fun q hq3 hd3 => hval q (mem_exd.1 hq3).1 hd3),
          addT_some (x := x) ⟨q, hq2, by rw [he]; exact hd⟩ (fun q hq3 hd3 => hval q (hsub q hq3) hd3)]
      · exact none2 (fun hia => hja (hdown i hia j h1)) (fun hir => hjn (hc.mem hir h1))
  · have h1 : ∀ q ∈ pl, (gAt gs q.1).d ≠ some t := fun q hq hd => hex ⟨q, hq, hd⟩
    rw [addT_none (fun q hq => h1 q (mem_exd.1 hq).1), addT_none (fun q hq => h1 q (hsub q hq))]

theorem alts_mem {go : Nat → DT} {σr : St} {T : Ts} {σ : St} {K : Ts → St → Prop} : ∀ {l : List Nat}, DS P Γ σr (altsOf gs go l) T σ K → ∀ j ∈ l, ∃ G, WrA P Γ σr σ T (gAt gs j) G ∧ ∀ x s, G x s → disj s σr → DS P Γ σr (go j) (putT T (gAt gs j).d x) s K := by
  intro l
  induction l with
  | nil => intro _ j hj; simp at hj
  | cons i r ih =>
    intro h j hj
    simp only [altsOf, DS] at h
    rcases List.mem_cons.1 hj with rfl | hj
    · exact h.1
    · exact ih h.2 j hj

theorem rdy_spec {done j : Nat} (h : rdy ms done j = true) {i : Nat} (hi : ancs ms j i = true) : done.testBit i = true := by
  simp only [rdy, beq_iff_eq] at h
  unfold ancs at hi
  rw [← h, Nat.testBit_and, Bool.and_eq_true] at hi
  exact hi.2
theorem rdy_of {done j : Nat} (h : ∀ i, ancs ms j i = true → done.testBit i = true) : rdy ms done j = true := by
  simp only [rdy, beq_iff_eq]
  refine Nat.eq_of_testBit_eq fun i => ?_
  rw [Nat.testBit_and]
  cases hb : (ms.getD j 0).testBit i with
  | false => rfl
  | true => rw [h i hb]; rfl
theorem testBit_or_pow {done j i : Nat} : (done ||| 2 ^ j).testBit i = true ↔ done.testBit i = true ∨ i = j := by
  rw [Nat.testBit_or, Bool.or_eq_true, Nat.testBit_two_pow, decide_eq_true_eq]
  exact ⟨fun h => h.imp id Eq.symm, fun h => h.imp id Eq.symm⟩
theorem testBit_bitsOf {i : Nat} : ∀ {l : List Nat}, (bitsOf l).testBit i = true ↔ i ∈ l := by
  intro l
  induction l with
  | nil => simp [bitsOf]
  | cons j r ih =>
    simp only [bitsOf, List.mem_cons]
    rw [Nat.testBit_or, Bool.or_eq_true, Nat.testBit_two_pow, ih, decide_eq_true_eq]
    exact ⟨fun h => h.imp Eq.symm id, fun h => h.imp Eq.symm id⟩

/-- An order that may be drawn. -/
structure Lin (ms : List Nat) (N : Nat) (idx : List Nat) : Prop where
  nd : idx.Nodup
  all : ∀ j, j < N → j ∈ idx
  lt : ∀ j ∈ idx, j < N
  anc : ∀ a j b, idx = a ++ j :: b → ∀ i, ancs ms j i = true → i ∈ a

theorem Lin.down {N : Nat} {a b : List Nat} (h : Lin ms N (a ++ b)) : ∀ i ∈ a, ∀ q, ancs ms i q = true → q ∈ a := by
  intro i hi q hq
  obtain ⟨a1, a2, rfl⟩ := List.append_of_mem hi
  have := h.anc a1 i (a2 ++ b) (by simp) q hq
  simp [this]

theorem Facts.get {T0 : Ts} {σr : St} {a : List Nat} {j : Nat} (hja : j ∉ a) : ∀ {pl : List (Nat × V)}, Facts Γ gs T0 σr a pl → j ∈ pl.map Prod.fst → PClosed ms pl → (pl.map Prod.fst).Nodup →
    ∃ p1 x r, pl = p1 ++ (j, x) :: r ∧ (gAt gs j).i.wri = false ∧ RdF Γ σr (addT gs T0 r) (gAt gs j) x ∧ PClosed ms r ∧ (∀ i, ancs ms j i = true → i ∈ r.map Prod.fst) ∧ j ∉ r.map Prod.fst := by
  intro pl
  induction pl with
  | nil => intro _ h; simp at h
  | cons q r ih =>
    intro hf hm hc hn
    obtain ⟨i, x⟩ := q
    simp only [List.map_cons, List.nodup_cons] at hn
    by_cases hij : i = j
    · subst hij
      obtain ⟨h1, h2⟩ := hf.1.resolve_left hja
      exact ⟨[], x, r, rfl, h1, h2, hc.2, hc.1, hn.1⟩
    · have hm' : j ∈ r.map Prod.fst := by
        simp only [List.map_cons, List.mem_cons] at hm
        exact hm.resolve_left (fun e => hij e.symm)
      obtain ⟨p1, y, r', e, h⟩ := ih hf.2 hm' hc.2 hn.2
      exact ⟨(i, x) :: p1, y, r', by rw [e]; rfl, h⟩
theorem Facts.more {T0 : Ts} {σr : St} {a : List Nat} {j : Nat} : ∀ {pl : List (Nat × V)}, Facts Γ gs T0 σr a pl → Facts Γ gs T0 σr (a ++ [j]) pl := by
  intro pl
  induction pl with
  | nil => intro h; exact h
  | cons q r ih => intro h; exact ⟨h.1.imp (fun h => by simp [h]) id, ih h.2⟩
theorem Facts.allIn {T0 : Ts} {σr : St} {a : List Nat} : ∀ {pl : List (Nat × V)}, (∀ i ∈ pl.map Prod.fst, i ∈ a) → Facts Γ gs T0 σr a pl := by
  intro pl
  induction pl with
  | nil => intro _; trivial
  | cons q r ih => intro h; exact ⟨.inl (h q.1 (by simp)), ih (fun i hi => h i (by simp only [List.map_cons, List.mem_cons]; exact .inr hi))⟩

/-- What holds between two operations of the order that is drawn. -/
structure DInv (Γ : St) (gs : List GI) (ms : List Nat) (N : Nat) (T0 : Ts) (σw σr : St) (T : Ts) (a b : List Nat) (pl : List (Nat × V)) (done : Nat) (l : List Nat) (E : List (List Nat)) : Prop where
  lin : Lin ms N (a ++ b)
  don : ∀ i, done.testBit i = true ↔ i ∈ pl.map Prod.fst
  all : ∀ j, j < N → j ∈ pl.map Prod.fst ∨ j ∈ l ∨ j ∈ E.flatten
  nd : (pl.map Prod.fst ++ (l ++ E.flatten)).Nodup
  lt : ∀ j, j ∈ pl.map Prod.fst ∨ j ∈ l ∨ j ∈ E.flatten → j < N
  exe : ∀ j ∈ a, j ∈ pl.map Prod.fst
  pc : PClosed ms pl
  seg : ∀ j ∈ E.flatten, ∀ i, i ∈ pl.map Prod.fst ∨ i ∈ l → ancs ms j i = true
  segs : segsOK (ancs ms) E = true
  fac : Facts Γ gs T0 σr a pl
  tmp : ∀ t, look T t = look (addT gs T0 (exd a pl)) t
  dj : disj σw σr

/-- The next one of the order is one that only reads and whose value is told. -/
theorem DInv.exec {N : Nat} (hD : DOK gs ms N) {T0 T : Ts} {σw σr : St} {a b : List Nat} {j : Nat} {pl : List (Nat × V)} {done : Nat} {l : List Nat} {E : List (List Nat)} (h : DInv Γ gs ms N T0 σw σr T a (j :: b) pl done l E) (hj : j ∈ pl.map Prod.fst)
    (hk : ∀ T', DInv Γ gs ms N T0 σw σr T' (a ++ [j]) b pl done l E → SRun P Γ f n (.ops (b.map (gAt gs)) :: k) T' (cup σw σr) Q) : SRun P Γ f n (.ops ((j :: b).map (gAt gs)) :: k) T (cup σw σr) Q := by
  have hja : j ∉ a := by
    intro hja
    have := h.lin.nd
    rw [List.nodup_append] at this
    exact this.2.2 j hja j (by simp) rfl
  have hn : (pl.map Prod.fst).Nodup := (List.nodup_append.1 h.nd).1
  obtain ⟨p1, x, r, hpl, hwr, hf, hc, hanc, hjr⟩ := Facts.get hja h.fac hj h.pc hn
  have hjN : j < N := h.lt j (.inl hj)
  have hag : ∀ t ∈ (gAt gs j).tmps, look T t = look (addT gs T0 r) t := fun t ht => by
    rw [h.tmp t]
    exact agree hD (p1 := p1 ++ [(j, x)]) (by rw [hpl]; simp) hn (fun q hq => h.lt _ (.inl (List.mem_map.2 ⟨q, hq, rfl⟩))) hc hjN hja (h.lin.anc a j b rfl) hanc hjr h.lin.down ht
  have hf' := hf.congr hag
  have hnext : DInv Γ gs ms N T0 σw σr (putT T (gAt gs j).d x) (a ++ [j]) b pl done l E :=
    { lin := by have := h.lin; simpa using this
      don := h.don
      all := h.all
      nd := h.nd
      lt := h.lt
      exe := fun i hi => by
        rcases List.mem_append.1 hi with hi | hi
        · exact h.exe i hi
        · simp at hi; subst hi; exact hj
      pc := h.pc
      seg := h.seg
      segs := h.segs
      fac := h.fac.more
      tmp := fun t => by
        rw [look_putT]
        by_cases hd : (gAt gs j).d = some t
        · rw [if_pos hd]
          refine (addT_some ⟨(j, x), mem_exd.2 ⟨by rw [hpl]; simp, by simp⟩, hd⟩ (fun q hq hd2 => ?_)).symm
          have h1 := (mem_exd.1 hq).1
          have he := hD.uni _ _ t (h.lt _ (.inl (List.mem_map.2 ⟨q, h1, rfl⟩))) hjN hd2 hd
          obtain ⟨i, y⟩ := q
          simp only at he; subst he
          have hn2 := hn
          rw [hpl] at h1 hn2
          simp only [List.map_append, List.map_cons, List.nodup_append, List.nodup_cons] at hn2
          rcases List.mem_append.1 h1 with h1 | h1
          · exact absurd rfl (hn2.2.2 i (List.mem_map.2 ⟨_, h1, rfl⟩) i (by simp))
          · rcases List.mem_cons.1 h1 with h1 | h1
            · exact congrArg Prod.snd h1
            · exact absurd (List.mem_map.2 ⟨_, h1, rfl⟩) hn2.2.1.1
        · rw [if_neg hd, addT_exd_app hd]; exact h.tmp t
      dj := h.dj }
  have hfin := hk _ hnext
  rw [List.map_cons]
  rcases hf' with ⟨g1, rfl⟩ | ⟨g1, p, g2, g3⟩
  · exact SRun.opSkip g1 hfin
  · refine SRun.op (G := fun y s => y = x ∧ s = cup σw σr) g1 (InsOK.pure (pureI_mono (fun b cs hb => ?_) g2) g3 ⟨rfl, rfl⟩) (fun y s ⟨e1, e2⟩ => by subst e1 e2; exact hfin)
    have := h.dj b
    rw [hb] at this
    simp at this
    simp [cup, this, hb]

theorem filter_len {l : List Nat} {j : Nat} (h : j ∈ l) : (l.filter (· != j)).length < l.length := by
  induction l with
  | nil => simp at h
  | cons i r ih =>
    by_cases hij : i = j
    · subst hij; simp; exact Nat.lt_succ_of_le (List.length_filter_le _ _)
    · have : j ∈ r := (List.mem_cons.1 h).resolve_left (fun e => hij e.symm)
      have h2 := ih this
      simpa [hij] using h2
theorem mem_filter_ne {l : List Nat} {i j : Nat} : i ∈ l.filter (· != j) ↔ i ∈ l ∧ i ≠ j := by simp

/-- One more is passed: the numbers. -/
theorem DInv.nd_pass {pl : List (Nat × V)} {l : List Nat} {F : List Nat} {j : Nat} {x : V} (h : (pl.map Prod.fst ++ (l ++ F)).Nodup) (hj : j ∈ l) : (((j, x) :: pl).map Prod.fst ++ (l.filter (· != j) ++ F)).Nodup := by
  rw [List.nodup_append] at h ⊢
  obtain ⟨h1, h2, h3⟩ := h
  rw [List.nodup_append] at h2 ⊢
  obtain ⟨h4, h5, h6⟩ := h2
  refine ⟨?_, ⟨h4.filter _, h5, fun u hu v hv => h6 u (mem_filter_ne.1 hu).1 v hv⟩, ?_⟩
  · simp only [List.map_cons, List.nodup_cons]
    exact ⟨fun hm => h3 j hm j (by simp [hj]) rfl, h1⟩
  · intro u hu v hv e
    subst e
    simp only [List.map_cons, List.mem_cons] at hu
    rcases hu with rfl | hu
    · rcases List.mem_append.1 hv with hv | hv
      · exact (mem_filter_ne.1 hv).2 rfl
      · exact h6 u hj u hv rfl
    · refine h3 u hu u ?_ rfl
      rcases List.mem_append.1 hv with hv | hv
      · exact List.mem_append.2 (.inl (mem_filter_ne.1 hv).1)
      · exact List.mem_append.2 (.inr hv)

theorem run_draw {N : Nat} (hD : DOK gs ms N) {T0 : Ts} {K : Ts → St → Prop} (hK : ∀ T s, K T s → SRun P Γ f n k T s Q) : ∀ (m : Nat) {σw σr : St} {T : Ts} {a b : List Nat} {pl : List (Nat × V)} {done done' fuel : Nat} {l : List Nat} {E : List (List Nat)},
    b.length + l.length + E.flatten.length + E.length = m → DInv Γ gs ms N T0 σw σr T a b pl done l E → l.length < fuel → (∀ i, done'.testBit i = true ↔ i ∈ pl.map Prod.fst ∨ i ∈ l) →
    DS P Γ σr (treeOf gs ms fuel done l) (addT gs T0 pl) σw (fun T s => DWs P Γ (treesOf gs ms done' E) T (cup s σr) K) → SRun P Γ f n (.ops (b.map (gAt gs)) :: k) T (cup σw σr) Q := by
  intro m
  induction m using Nat.strongRecOn with
  | _ m ih =>
    intro σw σr T a b pl done done' fuel l E hm h hfu hd' hDS
    obtain ⟨fuel, rfl⟩ : ∃ u, fuel = u + 1 := ⟨fuel - 1, by omega⟩
    -- what was told is run
    have exec : ∀ j b', b = j :: b' → j ∈ pl.map Prod.fst → SRun P Γ f n (.ops (b.map (gAt gs)) :: k) T (cup σw σr) Q := by
      intro j b' hb hj
      subst hb
      refine h.exec hD hj fun T' h' => ih _ ?_ rfl h' hfu hd' hDS
      rw [← hm]; simp only [List.length_cons]; omega
    have hwf : ∀ i, i ∈ pl.map Prod.fst → i ∉ a → i ∈ b := by
      intro i hi hia
      have := h.lin.all i (h.lt i (.inl hi))
      exact (List.mem_append.1 this).resolve_left hia
    cases hfind : l.find? (fun j => rdy ms done j && !(gAt gs j).i.wri) with
    | some j =>
      have hj : j ∈ l := List.mem_of_find?_eq_some hfind
      have hjp := List.find?_some hfind
      simp only [Bool.and_eq_true, Bool.not_eq_true'] at hjp
      simp only [treeOf, hfind, DS] at hDS
      obtain ⟨x, hf, hrest⟩ := hDS
      have hlen := filter_len hj
      refine ih _ ?_ rfl (pl := (j, x) :: pl) (done' := done') ⟨h.lin, fun i => ?_, fun i hi => ?_, DInv.nd_pass h.nd hj, fun i hi => ?_, fun i hi => ?_, ⟨fun i hi => (h.don i).1 (rdy_spec hjp.1 hi), h.pc⟩, fun i hi u hu => ?_, h.segs, ⟨.inr ⟨hjp.2, hf⟩, h.fac⟩, fun t => ?_, h.dj⟩ (by omega) (fun i => ?_) hrest
      · rw [← hm]; omega
      · rw [testBit_or_pow, h.don i]; simp only [List.map_cons, List.mem_cons]; exact or_comm
      · rcases h.all i hi with h1 | h1 | h1
        · exact .inl (by simp only [List.map_cons, List.mem_cons]; exact .inr h1)
        · by_cases hij : i = j
          · exact .inl (by simp [hij])
          · exact .inr (.inl (mem_filter_ne.2 ⟨h1, hij⟩))
        · exact .inr (.inr h1)
      · rcases hi with h1 | h1 | h1
        · simp only [List.map_cons, List.mem_cons] at h1
          rcases h1 with rfl | h1
          · exact h.lt i (.inr (.inl hj))
          · exact h.lt i (.inl h1)
        · exact h.lt i (.inr (.inl (mem_filter_ne.1 h1).1))
        · exact h.lt i (.inr (.inr h1))
      · simp only [List.map_cons, List.mem_cons]; exact .inr (h.exe i hi)
      · refine h.seg i hi u ?_
        rcases hu with h1 | h1
        · simp only [List.map_cons, List.mem_cons] at h1
          rcases h1 with rfl | h1
          · exact .inr hj
          · exact .inl h1
        · exact .inr (mem_filter_ne.1 h1).1
      · rw [h.tmp t]
        have hja : j ∉ a := fun hja => by
          have h1 := (List.nodup_append.1 h.nd).2.2
          exact h1 j (h.exe j hja) j (List.mem_append.2 (.inl hj)) rfl
        have : exd a ((j, x) :: pl) = exd a pl := by simp [exd, hja]
        rw [this]
      · rw [hd' i]; simp only [List.map_cons, List.mem_cons]; rw [mem_filter_ne]
        by_cases hij : i = j
        · subst hij; simp [hj]
        · simp [hij]
    | none =>
      have hnp : ∀ u, u ∈ l ∨ u ∈ E.flatten → u ∉ pl.map Prod.fst := fun u hu hp => (List.nodup_append.1 h.nd).2.2 u hp u (List.mem_append.2 hu) rfl
      cases l with
      | nil =>
        simp only [treeOf, hfind, DS] at hDS
        by_cases hall : ∀ i ∈ pl.map Prod.fst, i ∈ a
        · cases E with
          | nil =>
            have hb : b = [] := by
              cases b with
              | nil => rfl
              | cons j b =>
                have hj := h.lin.lt j (by simp)
                have h1 : j ∈ pl.map Prod.fst := by simpa using h.all j hj
                have h2 := hall j h1
                have := h.lin.nd
                rw [List.nodup_append] at this
                exact absurd rfl (this.2.2 j h2 j (by simp))
            subst hb
            simp only [treesOf, DWs] at hDS
            have hex : exd a pl = pl := by
              unfold exd
              rw [List.filter_eq_self]
              intro q hq
              simpa using hall q.1 (List.mem_map.2 ⟨q, hq, rfl⟩)
            have ht := h.tmp
            rw [hex] at ht
            exact SRun.opsNil (SRun.congr ht (hK _ _ hDS))
          | cons s E =>
            simp only [treesOf, DWs] at hDS
            obtain ⟨σw', σr', hdj', he, hDS⟩ := hDS
            rw [he]
            have hnd := h.nd
            simp only [List.nil_append, List.flatten_cons] at hnd
            refine ih _ ?_ rfl (done := done') (done' := done' ||| bitsOf s) (fuel := s.length + 1) ⟨h.lin, fun i => by rw [hd' i]; simp, fun i hi => ?_, hnd, fun i hi => ?_, h.exe, h.pc, fun i hi u hu => ?_, ?_, Facts.allIn hall, h.tmp, hdj'⟩ (Nat.lt_succ_self _) (fun i => ?_) hDS
            · rw [← hm]; simp only [List.length_nil, List.flatten_cons, List.length_append, List.length_cons]; omega
            · rcases h.all i hi with h1 | h1 | h1
              · exact .inl h1
              · simp at h1
              · rw [List.flatten_cons, List.mem_append] at h1; exact .inr h1
            · rcases hi with h1 | h1 | h1
              · exact h.lt i (.inl h1)
              · exact h.lt i (.inr (.inr (by rw [List.flatten_cons, List.mem_append]; exact .inl h1)))
              · exact h.lt i (.inr (.inr (by rw [List.flatten_cons, List.mem_append]; exact .inr h1)))
            · rcases hu with h1 | h1
              · exact h.seg i (by rw [List.flatten_cons, List.mem_append]; exact .inr hi) u (.inl h1)
              · have hs := h.segs
                simp only [segsOK, Bool.and_eq_true, List.all_eq_true] at hs
                obtain ⟨v, hv, hiv⟩ := List.mem_flatten.1 hi
                exact hs.1 u h1 v hv i hiv
            · have hs := h.segs
              simp only [segsOK, Bool.and_eq_true] at hs
              exact hs.2
            · rw [Nat.testBit_or, Bool.or_eq_true, hd' i, testBit_bitsOf]; simp
        · obtain ⟨i, hi⟩ := Classical.not_forall.1 hall
          obtain ⟨hi, hia⟩ := Classical.not_imp.1 hi
          have hib := hwf i hi hia
          cases hb : b with
          | nil => rw [hb] at hib; simp at hib
          | cons j b' =>
            rw [← hb]
            refine exec j b' hb ?_
            have hjN := h.lin.lt j (by simp [hb])
            rcases h.all j hjN with h1 | h1 | h1
            · exact h1
            · simp at h1
            · have := h.seg j h1 i (.inl hi)
              exact absurd (h.lin.anc a j b' (by rw [hb]) i this) hia
      | cons u l' =>
        cases hb : b with
        | nil =>
          have h1 := h.lin.all u (h.lt u (.inr (.inl (by simp))))
          rw [hb, List.append_nil] at h1
          exact absurd (h.exe u h1) (hnp u (.inl (by simp)))
        | cons j b' =>
          by_cases hjp : j ∈ pl.map Prod.fst
          · rw [← hb]; exact exec j b' hb hjp
          · have hjN := h.lin.lt j (by simp [hb])
            have hanc : ∀ i, ancs ms j i = true → i ∈ a := h.lin.anc a j b' (by rw [hb])
            have hjl : j ∈ u :: l' := by
              rcases h.all j hjN with h1 | h1 | h1
              · exact absurd h1 hjp
              · exact h1
              · have h2 := hanc u (h.seg j h1 u (.inr (by simp)))
                exact absurd (h.exe u h2) (hnp u (.inl (by simp)))
            have hr : rdy ms done j = true := rdy_of fun i hi => (h.don i).2 (h.exe i (hanc i hi))
            simp only [treeOf, hfind] at hDS
            obtain ⟨G, hW, hrest⟩ := alts_mem hDS j (by rw [List.mem_filter]; exact ⟨hjl, hr⟩)
            have hja : j ∉ a := fun hja => hjp (h.exe j hja)
            have hn : (pl.map Prod.fst).Nodup := (List.nodup_append.1 h.nd).1
            have hag : ∀ t ∈ (gAt gs j).tmps, look T t = look (addT gs T0 pl) t := fun t ht => by
              rw [h.tmp t]
              exact agree hD (p1 := []) (by simp) hn (fun q hq => h.lt _ (.inl (List.mem_map.2 ⟨q, hq, rfl⟩))) h.pc hjN hja hanc (fun i hi => h.exe i (hanc i hi)) hjp (by have := h.lin; exact this.down) ht
            have hlen := filter_len hjl
            have next : ∀ x s, G x s → disj s σr → SRun P Γ f n (.ops (b'.map (gAt gs)) :: k) (putT T (gAt gs j).d x) (cup s σr) Q := by
              intro x s hG hds
              refine ih _ ?_ rfl (a := a ++ [j]) (pl := (j, x) :: pl) (done' := done') (fuel := fuel) ⟨by have := h.lin; rw [hb] at this; simpa using this, fun i => ?_, fun i hi => ?_, DInv.nd_pass h.nd hjl, fun i hi => ?_, fun i hi => ?_, ⟨fun i hi => h.exe i (hanc i hi), h.pc⟩, fun i hi v hv => ?_, h.segs, ⟨.inl (by simp), h.fac.more⟩, fun t => ?_, hds⟩ (by omega) (fun i => ?_) (hrest x s hG hds)
              · rw [← hm, hb]; simp only [List.length_cons] at hlen ⊢; omega
              · rw [testBit_or_pow, h.don i]; simp only [List.map_cons, List.mem_cons]; exact or_comm
              · rcases h.all i hi with h1 | h1 | h1
                · exact .inl (by simp only [List.map_cons, List.mem_cons]; exact .inr h1)
                · by_cases hij : i = j
                  · exact .inl (by simp [hij])
                  · exact .inr (.inl (mem_filter_ne.2 ⟨h1, hij⟩))
                · exact .inr (.inr h1)
              · rcases hi with h1 | h1 | h1
                · simp only [List.map_cons, List.mem_cons] at h1
                  rcases h1 with rfl | h1
                  · exact hjN
                  · exact h.lt i (.inl h1)
                · exact h.lt i (.inr (.inl (mem_filter_ne.1 h1).1))
                · exact h.lt i (.inr (.inr h1))
              · simp only [List.map_cons, List.mem_cons]
                rcases List.mem_append.1 hi with h1 | h1
                · exact .inr (h.exe i h1)
                · exact .inl (by simpa using h1)
              · refine h.seg i hi v ?_
                rcases hv with h1 | h1
                · simp only [List.map_cons, List.mem_cons] at h1
                  rcases h1 with rfl | h1
                  · exact .inr hjl
                  · exact .inl h1
                · exact .inr (mem_filter_ne.1 h1).1
              · have he : exd (a ++ [j]) ((j, x) :: pl) = (j, x) :: exd (a ++ [j]) pl := by simp [exd]
                rw [he]
                simp only [addT, look_putT]
                by_cases hd : (gAt gs j).d = some t
                · rw [if_pos hd, if_pos hd]
                · rw [if_neg hd, if_neg hd, addT_exd_app hd]; exact h.tmp t
              · rw [hd' i]; simp only [List.map_cons, List.mem_cons]; rw [mem_filter_ne]
                by_cases hij : i = j
                · subst hij; exact ⟨fun _ => .inl (.inl rfl), fun _ => .inr (List.mem_cons.1 hjl)⟩
                · simp [hij]
            rw [List.map_cons]
            rcases hW with (⟨g1, g2⟩ | ⟨g1, g2⟩) | ⟨g1, g2⟩
            · exact SRun.opSkip (by rw [guardV_congr hag]; exact g1) (next _ _ g2 h.dj)
            · refine SRun.op (by rw [guardV_congr hag]; exact g1) ((g2 T hag).frame h.dj) fun x s ⟨s', e, hs, hG⟩ => ?_
              rw [e]; exact next x s' hG hs
            · refine SRun.op (by rw [guardV_congr hag]; exact g1) (g2 T hag h.dj) fun x s ⟨s', e, hs, hG⟩ => ?_
              rw [e]; exact next x s' hG hs

/-! What the check says -/
theorem preds_spec {o : Oper} {p : Nat} : p ∈ preds o ↔ ∃ e ∈ o.after, Region.binds .any e = true ∧ e.on = p := by
  simp only [preds, List.mem_map, List.mem_filter]
  constructor
  · rintro ⟨e, ⟨h1, h2⟩, h3⟩; exact ⟨e, by simpa using h1, h2, h3⟩
  · rintro ⟨e, h1, h2, h3⟩; exact ⟨e, ⟨by simpa using h1, h2⟩, h3⟩

theorem lin_go {ops : Array Oper} (hp : ∀ (j : Nat) (o : Oper), ops[j]? = some o → ∀ p ∈ preds o, p < j) : ∀ (fuel t : Nat) (listed : Array Bool), listed.size = ops.size → ((List.range ops.size).filter (fun i => !listed.getD i true)).length ≤ fuel →
    (Region.linearise.go .any ops fuel t listed []).Nodup ∧ (∀ i, i ∈ Region.linearise.go .any ops fuel t listed [] ↔ i < ops.size ∧ listed.getD i true = false) ∧
    ∀ (a : List Nat) (j : Nat) (b : List Nat), Region.linearise.go .any ops fuel t listed [] = a ++ j :: b → ∀ o, ops[j]? = some o → ∀ p ∈ preds o, listed.getD p false = true ∨ p ∈ a := by
  intro fuel
  induction fuel with
  | zero =>
    intro t listed hs hl
    have hl : (List.range ops.size).filter (fun i => !listed.getD i true) = [] := List.eq_nil_of_length_eq_zero (Nat.le_zero.1 hl)
    rw [List.filter_eq_nil_iff] at hl
    refine ⟨by simp [Region.linearise.go], fun i => ⟨fun h => by simp [Region.linearise.go] at h, fun ⟨h1, h2⟩ => ?_⟩, fun a j b h => by simp [Region.linearise.go] at h⟩
    exact absurd (by simpa using h2) (hl i (List.mem_range.2 h1))
  | succ fuel ih =>
    intro t listed hs hl
    have hgo : Region.linearise.go .any ops (fuel + 1) t listed [] = match (Region.ready .any ops listed)[t % (Region.ready .any ops listed).length]? with
      | some i => Region.linearise.go .any ops fuel (t / (Region.ready .any ops listed).length) (listed.setIfInBounds i true) [i]
      | none => [].reverse := rfl
    rw [hgo]
    have hstuck : Region.ready .any ops listed = [] → ∀ j, j < ops.size → listed.getD j true = true := by
      intro hr j
      induction j using Nat.strongRecOn with
      | _ j ihj =>
        intro hj
        cases hc : listed.getD j true with
        | true => rfl
        | false =>
          have : j ∈ Region.ready .any ops listed := by
            rw [mem_ready]
            refine ⟨hc, ops[j], by simp [hj], fun e he hb => ?_⟩
            have hlt := hp j ops[j] (by simp [hj]) e.on (preds_spec.2 ⟨e, he, hb, rfl⟩)
            have h1 := ihj e.on hlt (by omega)
            have h2 : e.on < listed.size := by omega
            simpa [Array.getD_eq_getD_getElem?, h2] using h1
          rw [hr] at this; simp at this
    cases hi : (Region.ready .any ops listed)[t % (Region.ready .any ops listed).length]? with
    | none =>
      have hnil : Region.ready .any ops listed = [] := by
        cases hr : Region.ready .any ops listed with
        | nil => rfl
        | cons x xs =>
          rw [hr] at hi
          have hlt : t % (x :: xs).length < (x :: xs).length := Nat.mod_lt _ (by simp)
          simp at hi
          simp at hlt
          omega
      refine ⟨by simp, fun i => ⟨fun h => by simp at h, fun ⟨h1, h2⟩ => ?_⟩, fun a j b h => by simp at h⟩
      rw [hstuck hnil i h1] at h2; cases h2
    | some i =>
      have him : i ∈ Region.ready .any ops listed := List.mem_of_getElem? hi
      obtain ⟨hil, oi, hoi, hpi⟩ := mem_ready.1 him
      have hiN : i < ops.size := (Array.getElem?_eq_some_iff.1 hoi).1
      simp only
      rw [linearise_go_acc, List.reverse_singleton, List.singleton_append]
      have hset : ∀ j d, (listed.setIfInBounds i true).getD j d = if i = j then true else listed.getD j d := by
        intro j d
        by_cases hij : i = j
        · subst hij; have : i < listed.size := by omega
          simp [this]
        · rw [getD_set_ne d hij, if_neg hij]
      obtain ⟨h1, h2, h3⟩ := ih (t / (Region.ready .any ops listed).length) (listed.setIfInBounds i true) (by simp [hs]) (by
        have : (List.range ops.size).filter (fun j => !(listed.setIfInBounds i true).getD j true) = ((List.range ops.size).filter (fun j => !listed.getD j true)).filter (· != i) := by
          rw [List.filter_filter]
          refine List.filter_congr fun j _ => ?_
          rw [hset]
          by_cases hij : i = j
          · subst hij; simp
          · have : (j != i) = true := by simp; exact fun e => hij e.symm
            rw [if_neg hij, this, Bool.true_and]
        rw [this]
        have hlt := filter_len (l := (List.range ops.size).filter (fun j => !listed.getD j true)) (j := i) (by rw [List.mem_filter, List.mem_range]; exact ⟨hiN, by simpa using hil⟩)
        omega)
      refine ⟨?_, fun j => ?_, fun a j b he o ho p hpj => ?_⟩
      · rw [List.nodup_cons]
        refine ⟨fun hm => ?_, h1⟩
        have := (h2 i).1 hm
        rw [hset, if_pos rfl] at this; exact absurd this.2 (by simp)
      · rw [List.mem_cons, h2 j, hset]
        by_cases hij : i = j
        · subst hij; simp [hiN]; simpa using hil
        · simp only [if_neg hij]
          exact ⟨fun h => h.resolve_left (fun e => hij e.symm), .inr⟩
      · cases a with
        | nil =>
          simp only [List.nil_append, List.cons.injEq] at he
          obtain ⟨rfl, _⟩ := he
          rw [hoi] at ho; obtain rfl := Option.some.inj ho
          obtain ⟨e, h4, h5, rfl⟩ := preds_spec.1 hpj
          exact .inl (hpi e h4 h5)
        | cons u a =>
          simp only [List.cons_append, List.cons.injEq] at he
          obtain ⟨rfl, he⟩ := he
          have h4 := h3 a j b he o ho p hpj
          rw [hset] at h4
          by_cases hip : i = p
          · exact .inr (by simp [hip])
          · rw [if_neg hip] at h4
            exact h4.imp id (fun h => by simp [h])

theorem lin_of {ops : Array Oper} (hp : ∀ (j : Nat) (o : Oper), ops[j]? = some o → ∀ p ∈ preds o, p < j) (hc : ∀ (j : Nat) (o : Oper), ops[j]? = some o → ∀ i, ancs ms j i = true → ∃ p ∈ preds o, p = i ∨ ancs ms p i = true) (t : Nat) :
    Lin ms ops.size (Region.linearise .any ops t) := by
  obtain ⟨h1, h2, h3⟩ := lin_go hp ops.size t (Array.replicate ops.size false) (by simp) (by simpa using List.length_filter_le (fun i => !(Array.replicate ops.size false).getD i true) (List.range ops.size))
  have hrep : ∀ j, j < ops.size → (Array.replicate ops.size false).getD j true = false := fun j hj => by simp [hj]
  refine ⟨h1, fun j hj => (h2 j).2 ⟨hj, hrep j hj⟩, fun j hj => ((h2 j).1 hj).1, ?_⟩
  intro a j
  induction j using Nat.strongRecOn generalizing a with
  | _ j ih =>
    intro b he i hi
    have hjN : j < ops.size := ((h2 j).1 (by show j ∈ Region.linearise .any ops t; rw [he]; simp)).1
    have ho : ops[j]? = some ops[j] := by simp [hjN]
    obtain ⟨p, hpp, hpi⟩ := hc j _ ho i hi
    have hpa : p ∈ a := by
      rcases h3 a j b he _ ho p hpp with h4 | h4
      · exfalso
        rcases Nat.lt_or_ge p ops.size with h5 | h5 <;> simp [h5] at h4
      · exact h4
    rcases hpi with rfl | hpi
    · exact hpa
    · obtain ⟨a1, a2, rfl⟩ := List.append_of_mem hpa
      have := ih p (hp j _ ho p hpp) a1 (a2 ++ j :: b) (by rw [he]; simp) i hpi
      simp [this]

theorem pairs_spec {r : Nat → Nat → Bool} : ∀ {l : List Nat}, pairsOK r l = true → l.Pairwise fun i j => r i j = true := by
  intro l
  induction l with
  | nil => intro _; exact .nil
  | cons x l ih =>
    intro h
    simp only [pairsOK, Bool.and_eq_true, List.all_eq_true] at h
    exact .cons h.1 (ih h.2)

/-- A region that draws its order. -/
theorem SRun.draw {dl : List DT} {T : Ts} {σ : St} {K : Ts → St → Prop} (h : DWs P Γ dl T σ K) (hK : ∀ T s, K T s → SRun P Γ f n k T s Q) : SRun P Γ f n (.code (.draw dl) :: k) T σ Q := by
  intro todo hr τ w a cs hd hs hp
  obtain ⟨it, rest, hr', hx, hst⟩ := peel hr
  cases hr' with
  | scope _ => exact absurd rfl (hx _)
  | code h1 h2 =>
    rename_i mc
    have key : ∀ (mc : Code) rest, compC P n mc = some (.draw dl) → RelT P n rest k → ∃ ops id rest', drawOf P n ops = some dl ∧ RelT P n rest' k ∧ Steps P (lone ((bas f).at a (.code mc :: rest)) cs w) (lone ((bas f).at a (.code (.region id ops true) :: rest')) cs w) := by
      intro mc
      induction mc with
      | scope q ih =>
        intro rest h1 h2
        obtain ⟨ops, id, rest', g0, g1, g2⟩ := ih (.inScope q :: rest) (by simpa [compC] using h1) (.scope h2)
        exact ⟨ops, id, rest', g0, g1, .head step_scope g2⟩
      | region id ops d =>
        intro rest h1 h2
        have hi := compC_inv h1
        cases d with
        | false => simp at hi
        | true =>
          simp only [Bool.true_eq_false, false_and, true_and, false_or, or_false, C.draw.injEq, reduceCtorEq] at hi
          obtain ⟨l, h3, rfl⟩ := hi
          exact ⟨ops, id, rest, h3, h2, .refl P _⟩
      | _ => intro rest h1; have hi := compC_inv h1; simp at hi
    obtain ⟨ops, id, rest', g0, g1, g2⟩ := key mc rest h1 h2
    simp only [drawOf, Option.bind_eq_bind, Option.bind_eq_some_iff] at g0
    obtain ⟨gs, hgs, g0⟩ := g0
    split at g0
    case isFalse => simp at g0
    case isTrue hok =>
    obtain rfl := Option.some.inj g0
    simp only [Bool.and_eq_true] at hok
    obtain ⟨hok, hmix⟩ := hok
    generalize masksFrom ops.toList [] = ms at h hok
    generalize cutAt ms 0 (2 * ops.size + 2) [] (List.range ops.size) = E at h hok
    obtain ⟨m1, m2⟩ := mapM_some_get hgs
    have hlen : gs.length = ops.size := by simpa using m1.symm
    simp only [drawOK, Bool.and_eq_true, decide_eq_true_eq, List.all_eq_true, List.mem_range] at hok
    obtain ⟨⟨⟨⟨⟨⟨c1, c2⟩, c3⟩, c4⟩, c5⟩, c6⟩, c7⟩ := hok
    have hpr : ∀ (j : Nat) (o : Oper), ops[j]? = some o → (∀ p ∈ preds o, p < j) ∧ ∀ i, i < ops.size → ancs ms j i = true → ∃ p ∈ preds o, p = i ∨ ancs ms p i = true := by
      intro j o ho
      have hj : j < ops.size := (Array.getElem?_eq_some_iff.1 ho).1
      obtain ⟨d1, d2⟩ := c4 j hj
      rw [ho] at d1 d2
      simp only [Option.map_some, Option.getD_some] at d1 d2
      refine ⟨d1, fun i hi ha => ?_⟩
      have := d2 i hi
      simp only [ha, Bool.not_true, Bool.false_or, List.any_eq_true, Bool.or_eq_true, beq_iff_eq] at this
      exact this
    have hlt : ∀ i j, ancs ms j i = true → i < ops.size := by
      intro i j ha
      unfold ancs at ha
      rcases Nat.lt_or_ge j ms.length with hj | hj
      · have hm := c5 (ms.getD j 0) (by simp [List.getD, hj])
        rcases Nat.lt_or_ge i ops.size with hi | hi
        · exact hi
        · rw [Nat.testBit_lt_two_pow (Nat.lt_of_lt_of_le hm (Nat.pow_le_pow_right (by omega) hi))] at ha; cases ha
      · simp [List.getD, hj] at ha
    have hD : DOK gs ms ops.size := by
      refine ⟨fun i j t hi hj h3 h4 => ?_, fun i j t hi hj hne h3 h4 => ?_, hlt⟩
      · have := c7 i hi
        rw [h3] at this
        simp only [List.all_eq_true, List.mem_range] at this
        have := this j hj
        rw [h4] at this
        simpa using this
      · have := c7 i hi
        rw [h3] at this
        simp only [List.all_eq_true, List.mem_range] at this
        have := this j hj
        simp only [Bool.or_eq_true, beq_iff_eq, Bool.and_eq_true, Bool.not_eq_true'] at this
        rcases this with h5 | ⟨_, ⟨h5⟩ | h5⟩
        · exact absurd h5 hne
        · rcases h5 with h5 | h5
          · rw [List.contains_iff_mem.2 h4] at h5; cases h5
          · exact .inl h5
        · exact .inr h5
    have hnd : E.flatten.Nodup := (pairs_spec c3).imp (by intro i j h; simpa using h)
    have hin : ∀ j, j < ops.size → j ∈ E.flatten := fun j hj => List.contains_iff_mem.1 (c1 j hj)
    have hstep : Steps P (lone ((bas f).at a (.code (.region id ops true) :: rest')) cs w) (lone ((bas f).at a (.inRegion ops (Region.linearise .any ops (w.tape w.drawn (.order (bas f).fn id))) :: rest')) cs { w with drawn := w.drawn + 1 }) := by
      refine .one ?_
      rw [step_region_draw]
      simp only [Region.schedule, hmix, Bool.true_or, if_true]
    generalize w.tape w.drawn (.order (bas f).fn id) = tp at hstep
    have hlin := lin_of (ms := ms) (fun j o ho => (hpr j o ho).1) (fun j o ho i hi => (hpr j o ho).2 i (hlt i j hi) hi) tp
    generalize Region.linearise .any ops tp = idx at hstep hlin
    have hrun : SRun P Γ f n (.ops (idx.map (gAt gs)) :: k) T σ Q := by
      have := run_draw (P := P) (Γ := Γ) (f := f) (n := n) (k := k) (Q := Q) hD (T0 := T) (K := K) hK _ (σw := σ) (σr := emp) (T := T) (a := []) (b := idx) (pl := []) (done := 0) (done' := 0) (fuel := 1) (l := []) (E := E) rfl
        ⟨by simpa using hlin, fun i => by simp, fun j hj => .inr (.inr (hin j hj)), by simpa using hnd, fun j hj => by rcases hj with h3 | h3 | h3 <;> first | (simp at h3; done) | exact c2 j h3, fun j hj => by simp at hj, trivial, fun j hj i hi => by simp at hi, c6, trivial, fun t => rfl, disj_emp σ⟩
        (by simp) (fun i => by simp) (by simp only [treeOf, List.find?_nil, DS, addT, cup_emp]; exact h)
      rw [cup_emp] at this; exact this
    have hsim : Sim (cup σ τ) { w with drawn := w.drawn + 1 } := hp.sim.eqHeap rfl
    have hpre : Pre Γ T σ τ { w with drawn := w.drawn + 1 } a := ⟨hp.dj, hsim, hp.glob.keep (.eqHeap rfl), hp.kn.keep (.eqHeap rfl)⟩
    obtain ⟨r, v, w', fr, σ', s1, s2, s3, s4, s5⟩ := hrun (.inRegion ops idx :: rest') (.ops (by simp) (fun j g hg => by
      rw [List.getElem?_map, Option.map_eq_some_iff] at hg
      obtain ⟨i, hi, rfl⟩ := hg
      have hiN := hlin.lt i (List.mem_of_getElem? hi)
      have hgi : gs[i]? = some (gAt gs i) := by simp [gAt, hlen, hiN]
      obtain ⟨o, ho, hcg⟩ := m2 i _ hgi
      exact ⟨i, o, hi, by simpa using ho, hcg⟩) g1) τ { w with drawn := w.drawn + 1 } a cs hd hs hpre
    exact ⟨r, v, w', fr, σ', (hst _ a w cs).trans (g2.trans (hstep.trans s1)), s2, s3, s4, s5.1, s5.2.1, s5.2.2.1, (show Keep w { w with drawn := w.drawn + 1 } (own (cup σ τ)) (own (cup σ τ)) from .eqHeap rfl).trans s5.2.2.2⟩
end
end Go.Proofs.Ytdenfjbhkdhlkaa.Lg
