/- The own logic: loops whose temporaries are told as a list, tests that arithmetic decides, slices of any element that are made, and giving up what is owned in the midst of a body. It holds for every program. -/
import Derived.Test.YtdenfjbhkdhlkaaLgR
set_option linter.unusedSimpArgs false
set_option linter.unusedVariables false
namespace Go.Proofs.Ytdenfjbhkdhlkaa.Lg
open Go

/-- What is known of the temporaries is at least this. -/
def subT : Ts → Ts → Prop
 | [], _ => True
 | (n, v) :: r, T => look T n = v ∧ subT r T
theorem subT_mem : ∀ {τ T : Ts}, subT τ T → ∀ p ∈ τ, look T p.1 = p.2 := by
 intro τ
 induction τ with
 | nil => intro T _ p hp; cases hp
 | cons q r ih =>
  intro T h p hp
  obtain ⟨n, v⟩ := q
  rcases List.mem_cons.1 hp with rfl | hp
  ·exact h.1
  ·exact ih h.2 p hp
def frzT (σ σ' : St) : Ts → Ts → Prop
 | [], _ => True
 | (n, v) :: r, T => Frz σ σ' (look T n) v ∧ frzT σ σ' r T
theorem frzT_look {σ σ' : St} {T : Ts} : ∀ {τ : Ts}, frzT σ σ' τ T → ∀ n, look τ n = .undef ∨ Frz σ σ' (look T n) (look τ n) := by
 intro τ
 induction τ with
 | nil => intro _ n; exact .inl rfl
 | cons q r ih =>
  intro h n
  obtain ⟨m, v⟩ := q
  by_cases hm : m = n
  ·subst hm; simp only [look, if_true]; exact .inr h.1
  ·simp only [look, if_neg hm]; exact ih h.2 n

theorem int_beq (a b : Int) : (a == b) = decide (a = b) := by by_cases h : a = b <;> simp [h]
theorem int_bne (a b : Int) : (a != b) = decide (¬ a = b) := by by_cases h : a = b <;> simp [h]
theorem not_dec (p : Prop) [Decidable p] : (!decide p) = decide (¬ p) := by by_cases h : p <;> simp [h]
theorem dec_True {h : Decidable True} : @decide True h = true := by simp
theorem dec_False {h : Decidable False} : @decide False h = false := by simp
theorem bif_T {α : Type} {p : Prop} [Decidable p] {a b : α} (h : p) : (bif decide p then a else b) = a := by rw [decide_eq_true h]; rfl
theorem bif_F {α : Type} {p : Prop} [Decidable p] {a b : α} (h : ¬ p) : (bif decide p then a else b) = b := by rw [decide_eq_false h]; rfl
theorem drop_cons {α : Type} {xs : List α} {i : Nat} (d : α) (h : i < xs.length) : xs.drop i = xs.getD i d :: xs.drop (i + 1) := by
 rw [List.drop_eq_getElem_cons h]; simp [List.getD, h]
theorem getD_mem {α : Type} {xs : List α} {i : Nat} (d : α) (h : i < xs.length) : xs.getD i d ∈ xs := by
 have : xs.getD i d = xs[i] := by simp [List.getD, h]
 rw [this]; exact List.getElem_mem h
theorem getD_some {α : Type} {xs : List α} {i : Nat} (d : α) (h : i < xs.length) : xs[i]? = some (xs.getD i d) := by simp [List.getD, h]
theorem take_succ {α : Type} {xs : List α} {i : Nat} (d : α) (h : i < xs.length) : xs.take (i + 1) = xs.take i ++ [xs.getD i d] := by
 rw [List.take_add_one, getD_some d h]; rfl

section
variable {P : Program} {Γ : St} {f : FuncId} {n : Nat} {Q : V → St → Prop} {k : List It} {T : Ts} {σ σ0 : St} {g : GI} {l : List GI}

theorem W_loopC {α : Type} {c : C} (J : α → Prop) (τ : α → Ts) (s : α → St) (mu : α → Nat) (a : α) (h0 : J a) (hT : subT (τ a) T) (hs : s a = σ)
  (round : ∀ a, J a → (∀ a' T' σ', J a' → mu a' < mu a → subT (τ a') T' → s a' = σ' → W P Γ f n Q (.inL c :: k) T' σ') → W P Γ f n Q (.code c :: .inL c :: k) (τ a) (s a)) :
  W P Γ f n Q (.code (.loop c) :: k) T σ := by
 subst hs
 rw [W_loop]
 refine SRun.loop (fun m T' σ' => ∃ a, J a ∧ mu a = m ∧ subT (τ a) T' ∧ s a = σ') (mu a) ⟨a, h0, rfl, hT, rfl⟩ ?_
 rintro m T' σ' ih ⟨a, hJ, hm, hT', rfl⟩
 refine SRun.forget (subT_mem hT') ?_
 refine (round a hJ fun a' T2 σ2 hJ' hlt hT2 hs2 => ?_).sound
 rw [W_inL]
 exact ih (mu a') T2 σ2 (by omega) ⟨a', hJ', rfl, hT2, hs2⟩

/-- What is owned is given up in the midst of a body. -/
theorem SRun.freeze {T' : Ts} {σ' : St} (hle : ∀ b cs, σ' b = some cs → σ b = some cs) (hT : frzT σ σ' T' T) (h : SRun P Γ f n k T' σ' Q) : SRun P Γ f n k T σ Q := by
 intro todo hr τ w a cs hd hs hp
 have h1 := hp.dj
 have hdj : disj σ' τ := by
  intro m
  cases hm : σ' m with
  | none => exact .inl rfl
  | some c => exact .inr (h1.other (hle m c hm))
 have hle2 : ∀ b cs, cup σ' τ b = some cs → cup σ τ b = some cs := by
  intro b cs hb
  unfold cup at *
  cases hm : σ' b with
  | none =>
   rw [hm] at hb
   have := h1.symm_none hb
   rw [this]; exact hb
  | some c => rw [hm] at hb; rw [hle b c hm]; exact hb
 have hown : ∀ b, own (cup σ' τ) b → own (cup σ τ) b := by
  intro m hm
  unfold own at *
  obtain ⟨c, hc⟩ := Option.isSome_iff_exists.1 hm
  rw [hle2 m c hc]; rfl
 obtain ⟨r, v, w', fr, s, g1, g2, g3, g4, p1, p2, p3, p4⟩ := h todo hr τ w a cs hd hs ⟨hdj, hp.sim.less hle2, hp.glob.keep ((Keep.refl w _).less hown), fun m => by
  rcases frzT_look hT m with he | hf
  ·rw [he]; exact .undef _
  ·exact hf.rep hp.sim h1 hle (hp.kn m)⟩
 exact ⟨r, v, w', fr, s, g1, g2, g3, g4, p1, p2, p3, p4.size, fun b hb ho => p4.same b hb fun h => ho (hown b h), p4.shape, fun b hb => (p4.own b hb).imp (hown b) id, p4.io⟩
theorem W_freezeL {T' : Ts} {σ' : St} {c : C} (hle : ∀ b cs, σ' b = some cs → σ b = some cs) (hT : frzT σ σ' T' T) (h : W P Γ f n Q (.inL c :: k) T' σ') : W P Γ f n Q (.inL c :: k) T σ := by
 rw [W_inL] at *; exact SRun.freeze hle hT h
theorem W_freezeLoop {T' : Ts} {σ' : St} {c : C} (hle : ∀ b cs, σ' b = some cs → σ b = some cs) (hT : frzT σ σ' T' T) (h : W P Γ f n Q (.code (.loop c) :: k) T' σ') : W P Γ f n Q (.code (.loop c) :: k) T σ := by
 rw [W_loop] at *; exact SRun.freeze hle hT h

/-! Tests -/
theorem iteW_T {p : Prop} [Decidable p] {x y : C} (h : p) : iteW P Γ f n Q (.bool (decide p)) x y k T σ = W P Γ f n Q (.code x :: k) T σ := by rw [decide_eq_true h]; exact iteW_true _ _
theorem iteW_F {p : Prop} [Decidable p] {x y : C} (h : ¬ p) : iteW P Γ f n Q (.bool (decide p)) x y k T σ = W P Γ f n Q (.code y :: k) T σ := by rw [decide_eq_false h]; exact iteW_false _ _
theorem iteW_dec {p : Prop} [Decidable p] {x y : C} (h1 : p → W P Γ f n Q (.code x :: k) T σ) (h2 : ¬ p → W P Γ f n Q (.code y :: k) T σ) : iteW P Γ f n Q (.bool (decide p)) x y k T σ :=
 iteW_of (fun h => h1 (of_decide_eq_true h)) (fun h => h2 (of_decide_eq_false h))
theorem guardW_Tt {p : Prop} [Decidable p] (h : p) : guardW P Γ f n Q (.bool (decide p)) true g l k T σ = stepW P Γ f n Q (g.i.sub (ev Γ T)) g l k T σ := by rw [decide_eq_true h]; exact guardW_tt _
theorem guardW_Tf {p : Prop} [Decidable p] (h : p) : guardW P Γ f n Q (.bool (decide p)) false g l k T σ = W P Γ f n Q (.ops l :: k) (putT T g.d (.tup [])) σ := by rw [decide_eq_true h]; exact guardW_tf _
theorem guardW_Ff {p : Prop} [Decidable p] (h : ¬ p) : guardW P Γ f n Q (.bool (decide p)) false g l k T σ = stepW P Γ f n Q (g.i.sub (ev Γ T)) g l k T σ := by rw [decide_eq_false h]; exact guardW_ff _
theorem guardW_Ft {p : Prop} [Decidable p] (h : ¬ p) : guardW P Γ f n Q (.bool (decide p)) true g l k T σ = W P Γ f n Q (.ops l :: k) (putT T g.d (.tup [])) σ := by rw [decide_eq_false h]; exact guardW_ft _
/-- A test that is not known is told of its value from here on. -/
theorem guardW_dec {p : Prop} [Decidable p] {want : Bool} (h1 : p → guardW P Γ f n Q (.bool (decide p)) want g l k T σ) (h2 : ¬ p → guardW P Γ f n Q (.bool (decide p)) want g l k T σ) : guardW P Γ f n Q (.bool (decide p)) want g l k T σ := by
 by_cases h : p
 ·exact h1 h
 ·exact h2 h
theorem guardW_by {b want : Bool} (h1 : b = true → guardW P Γ f n Q (.bool b) want g l k T σ) (h2 : b = false → guardW P Γ f n Q (.bool b) want g l k T σ) : guardW P Γ f n Q (.bool b) want g l k T σ := by
 cases b
 ·exact h2 rfl
 ·exact h1 rfl
theorem guardV_none {d : Option Nat} {i : I} : guardV Γ T ⟨d, none, i⟩ = some true := rfl

/-! Reads that arithmetic allows -/
theorem stepW_iaddr_at {es : Nat} {ex : Bool} {xs : List V} {kk : IntKind} {m : Int} (h0 : 0 ≤ m) (h1 : m < xs.length) : stepW P Γ f n Q (.iaddr es (.c (.isl ex es xs)) (.c (.int kk m))) g l k T σ = W P Γ f n Q (.ops l :: k) (putT T g.d (.iptr (xs.getD m.toNat .undef).cells)) σ := by
 have hlt : m.toNat < xs.length := by omega
 simp [stepW_iaddr_isl, h0, hlt, List.getD]
theorem stepW_iaddr_map {α : Type} [Inhabited α] {F : α → V} {es : Nat} {ex : Bool} {xs : List α} {kk : IntKind} {m : Int} (h0 : 0 ≤ m) (h1 : m < xs.length) : stepW P Γ f n Q (.iaddr es (.c (.isl ex es (xs.map F))) (.c (.int kk m))) g l k T σ = W P Γ f n Q (.ops l :: k) (putT T g.d (.iptr (F (xs.getD m.toNat default)).cells)) σ := by
 have hlt : m.toNat < xs.length := by omega
 simp [stepW_iaddr_isl, h0, hlt, List.getD]
theorem stepW_iaddr_ints {ex : Bool} {xs : List Int} {kk : IntKind} {m : Int} (h0 : 0 ≤ m) (h1 : m < xs.length) : stepW P Γ f n Q (.iaddr 1 (.c (.isl ex 1 (ints xs))) (.c (.int kk m))) g l k T σ = W P Γ f n Q (.ops l :: k) (putT T g.d (.iptr [.int .i64 (xs.getD m.toNat 0)])) σ := stepW_iaddr_map h0 h1
theorem stepK_iaddr_map {K : V → St → Prop} {α : Type} [Inhabited α] {F : α → V} {es : Nat} {ex : Bool} {xs : List α} {kk : IntKind} {m : Int} (h0 : 0 ≤ m) (h1 : m < xs.length) : stepK (.iaddr es (.c (.isl ex es (xs.map F))) (.c (.int kk m))) σ K = K (.iptr (F (xs.getD m.toNat default)).cells) σ := by
 have hlt : m.toNat < xs.length := by omega
 simp [stepK_iaddr_isl, h0, hlt, List.getD]
theorem stepK_iaddr_ints {K : V → St → Prop} {ex : Bool} {xs : List Int} {kk : IntKind} {m : Int} (h0 : 0 ≤ m) (h1 : m < xs.length) : stepK (.iaddr 1 (.c (.isl ex 1 (ints xs))) (.c (.int kk m))) σ K = K (.iptr [.int .i64 (xs.getD m.toNat 0)]) σ := stepK_iaddr_map h0 h1
theorem stepW_idxs_at {s : List UInt8} {kk : IntKind} {m : Int} (h0 : 0 ≤ m) (h1 : m < s.length) : stepW P Γ f n Q (.idxs (.c (.str s)) (.c (.int kk m))) g l k T σ = W P Γ f n Q (.ops l :: k) (putT T g.d (.int .u8 ((s.getD m.toNat 0).toNat : Int))) σ := by
 have hlt : m.toNat < s.length := by omega
 simp [stepW_idxs, h0, hlt, List.getD]
theorem stepK_idxs_at {K : V → St → Prop} {s : List UInt8} {kk : IntKind} {m : Int} (h0 : 0 ≤ m) (h1 : m < s.length) : stepK (.idxs (.c (.str s)) (.c (.int kk m))) σ K = K (.int .u8 ((s.getD m.toNat 0).toNat : Int)) σ := by
 have hlt : m.toNat < s.length := by omega
 simp [stepK_idxs, h0, hlt, List.getD]
/-- A place in a row that is owned. -/
theorem stepW_iaddr_own {es b off len cap : Nat} {kk : IntKind} {m : Int} (h0 : 0 ≤ m) (h1 : m < len) : stepW P Γ f n Q (.iaddr es (.c (.msl b es off len cap)) (.c (.int kk m))) g l k T σ = W P Γ f n Q (.ops l :: k) (putT T g.d (.ptr b (off + m.toNat * es))) σ := by
 simp [stepW_iaddr_msl, h0, h1]
theorem stepK_iaddr_own {K : V → St → Prop} {es b off len cap : Nat} {kk : IntKind} {m : Int} (h0 : 0 ≤ m) (h1 : m < len) : stepK (.iaddr es (.c (.msl b es off len cap)) (.c (.int kk m))) σ K = K (.ptr b (off + m.toNat * es)) σ := by
 simp [stepK_iaddr_msl, h0, h1]

/-! Slices that are made, of any element -/
def OwnL (σ0 : St) (es : Nat) (xs : List V) (r : V) (σ : St) : Prop := OwnS σ0 es (flat xs) xs.length r σ ∧ ∀ x ∈ xs, x.cells.length = es ∧ ∀ c ∈ x.cells, c.one = true
variable {es : Nat} {xs ys : List V} {r : V}
theorem flat_append (xs ys : List V) : flat (xs ++ ys) = flat xs ++ flat ys := by simp [flat, List.flatMap_append]
theorem flat_ones {xs : List V} (h : ∀ x ∈ xs, ∀ c ∈ x.cells, c.one = true) : ∀ c ∈ flat xs, c.one = true := by
 intro c hc
 simp only [flat, List.mem_flatMap] at hc
 obtain ⟨x, hx, hc⟩ := hc
 exact h x hx c hc
theorem OwnL.nil (es es' : Nat) : OwnL σ0 es [] (.isl true es' []) σ0 := ⟨OwnS.nil _ _, fun x hx => by cases hx⟩
theorem OwnL.get (h : OwnL σ0 es xs r σ) {b : Nat} {c : List V} (hb : σ0 b = some c) : σ b = some c := h.1.get hb
theorem OwnL.le (h : OwnL σ0 es xs r σ) : ∀ b c, σ0 b = some c → σ b = some c := h.1.le
theorem OwnL.upd (h : OwnL σ0 es xs r σ) {b : Nat} {c c' : List V} (hb : σ0 b = some c) : OwnL (upd σ0 b c') es xs r (upd σ b c') := ⟨h.1.upd hb, h.2⟩
theorem OwnL.one (h : OwnL σ0 es xs r σ) : r.one = true := h.1.one.2
theorem OwnL.cells (h : OwnL σ0 es xs r σ) : r.cells = [r] := h.1.one.1
theorem OwnL.flat_len (h : OwnL σ0 es xs r σ) : (flat xs).length = xs.length * es := flat_length fun x hx => (h.2 x hx).1
/-- What is made is given up. -/
theorem OwnL.frz {σ2 σ3 : St} (h : OwnL σ0 es xs r σ) (h2 : ∀ b, σ0 b = none → σ2 b = σ b) (h3 : ∀ b, σ0 b = none → σ3 b = none) : Frz σ2 σ3 r (.isl false es xs) := by
 have hfl := h.flat_len
 obtain ⟨h, hx⟩ := h
 rcases h with ⟨hc, hl, rfl, es', rfl⟩ | ⟨b2, cap, hb, rfl, rfl, h4⟩
 ·obtain rfl := List.eq_nil_of_length_eq_zero hl
  exact .isl0 _ _ _ _ (fun h => by cases h)
 ·refine .msl b2 es 0 xs.length cap (flat xs) xs (by rw [h2 b2 hb, upd_same]) (h3 b2 hb) (by omega) rfl (fun x hm => (hx x hm).1) hfl (fun i x hi => flat_ones (fun x hm => (hx x hm).2) x (List.mem_of_getElem? hi)) (fun i x y hy hx' => ?_)
  rw [Nat.zero_add] at hy
  rw [hy] at hx'; obtain rfl := Option.some.inj hx'; exact .refl _
theorem OwnL.conv (h : OwnL σ0 es xs r σ) : Conv σ r σ0 (.isl false es xs) := ⟨h.le, h.frz (fun _ _ => rfl) (fun _ h => h)⟩
/-- Where it lies, if it is not empty. -/
theorem OwnL.at (h : OwnL σ0 es xs r σ) (hne : xs ≠ []) : ∃ b cap, r = .msl b es 0 xs.length cap ∧ σ b = some (flat xs) ∧ xs.length ≤ cap ∧ σ0 b = none ∧ σ = Lg.upd σ0 b (flat xs) := by
 rcases h.1 with ⟨hc, hl, rfl, es', rfl⟩ | ⟨b2, cap, hb, rfl, rfl, h4⟩
 ·exact absurd (List.eq_nil_of_length_eq_zero hl) hne
 ·exact ⟨b2, cap, rfl, upd_same _ _ _, h4.2, hb, rfl⟩
theorem OwnL.src (h : OwnL σ0 es xs r σ) : srcV σ es r = some (flat xs, xs.length) := h.1.src
theorem src_isl {ex : Bool} {ys : List V} : srcV σ es (.isl ex es ys) = some (flat ys, ys.length) := by simp [srcV]
theorem SRun.appL {d : Option Nat} {by_ : Nat} {s x : Opd} {ex : Bool} (h : OwnL σ0 es xs (ev Γ T s) σ) (hx : ev Γ T x = .isl ex es ys) (hy : ∀ y ∈ ys, y.cells.length = es ∧ ∀ c ∈ y.cells, c.one = true) (hfit : (xs.length + ys.length) * by_ ≤ 140737488355328)
  (hk : ∀ r σ', OwnL σ0 es (xs ++ ys) r σ' → W P Γ f n Q (.ops l :: k) (putT T d r) σ') : SRun P Γ f n (.ops (⟨d, none, .app es by_ s x⟩ :: l) :: k) T σ Q := by
 refine SRun.appO h.1 (by rw [hx]; exact src_isl) (flat_length fun x hm => (hy x hm).1) hfit fun r σ' ho => hk r σ' ⟨?_, fun x hm => ?_⟩
 ·rw [flat_append, List.length_append]; exact ho
 ·rcases List.mem_append.1 hm with hm | hm
  ·exact h.2 x hm
  ·exact hy x hm
theorem DRun.appL {d : Option Nat} {segs : List DT} {by_ : Nat} {s x : Opd} {ex : Bool} (h : OwnL σ0 es xs (ev Γ T s) σ) (hx : ev Γ T x = .isl ex es ys) (hy : ∀ y ∈ ys, y.cells.length = es ∧ ∀ c ∈ y.cells, c.one = true) (hfit : (xs.length + ys.length) * by_ ≤ 140737488355328)
  (hk : ∀ r σ', OwnL σ0 es (xs ++ ys) r σ' → WD P Γ f n Q k segs (putT T d r) σ') : DRun P Γ f n Q (.wr ⟨d, none, .app es by_ s x⟩ .nil .no :: segs) k T σ := by
 refine DRun.appO h.1 (by rw [hx]; exact src_isl) (flat_length fun x hm => (hy x hm).1) hfit fun r σ' ho => hk r σ' ⟨?_, fun x hm => ?_⟩
 ·rw [flat_append, List.length_append]; exact ho
 ·rcases List.mem_append.1 hm with hm | hm
  ·exact h.2 x hm
  ·exact hy x hm
theorem OwnL.drop {b : Nat} {c : List V} (hb : σ0 b = none) (h : OwnL (Lg.upd σ0 b c) es xs r σ) : ∃ σ2, (∀ d x, σ2 d = some x → σ d = some x) ∧ OwnL σ0 es xs r σ2 := by
 obtain ⟨σ2, h1, h2⟩ := h.1.drop hb
 exact ⟨σ2, h1, h2, h.2⟩
theorem stepW_len_own (h : OwnL σ0 es xs r σ) : stepW P Γ f n Q (.len (.c r)) g l k T σ = W P Γ f n Q (.ops l :: k) (putT T g.d (.int .i64 xs.length)) σ := by
 rcases h.1 with ⟨hc, hl, rfl, es', rfl⟩ | ⟨b2, cap, hb, rfl, rfl, h4⟩
 ·rw [stepW_len_isl]; obtain rfl := List.eq_nil_of_length_eq_zero hl; rfl
 ·rw [stepW_len_msl]
theorem stepK_len_own {K : V → St → Prop} {σ2 : St} (h : OwnL σ0 es xs r σ) : stepK (.len (.c r)) σ2 K = K (.int .i64 xs.length) σ2 := by
 rcases h.1 with ⟨hc, hl, rfl, es', rfl⟩ | ⟨b2, cap, hb, rfl, rfl, h4⟩
 ·rw [stepK_len_isl]; obtain rfl := List.eq_nil_of_length_eq_zero hl; rfl
 ·rw [stepK_len_msl]
end
theorem ints_ok (xs : List Int) : ∀ y ∈ ints xs, y.cells.length = 1 ∧ ∀ c ∈ y.cells, c.one = true := by
 intro y hy; simp only [ints, List.mem_map] at hy; obtain ⟨x, _, rfl⟩ := hy; exact ⟨rfl, by simp [V.cells, V.one]⟩
theorem flat_ints (xs : List Int) : flat (ints xs) = ints xs := flat_one (ints_one xs)
/-! What is owned is lent to a callee that owns nothing -/
/-- What a value says does not hang on who owns what. -/
def Plain (x : V) : Prop := ∀ (w : World) (O O' : Nat → Prop) (v : Value), Rep w O x v → Rep w O' x v
theorem Plain.bool (b : Bool) : Plain (.bool b) := fun w O O' v h => by cases h; exact .bool _
theorem Plain.int (k : IntKind) (n : Int) : Plain (.int k n) := fun w O O' v h => by cases h; exact .int _ _
theorem Plain.str (s : List UInt8) : Plain (.str s) := fun w O O' v h => by cases h; exact .str _
theorem Plain.isl0 (ex : Bool) (es : Nat) : Plain (.isl ex es []) := fun w O O' v h => by
 obtain ⟨a, c, rfl, _, hx⟩ := h.isl_len
 exact .isl0 _ _ _ _ hx
theorem Plain.msl (b es off len cap : Nat) : Plain (.msl b es off len cap) := fun w O O' v h => by
 cases h with
 | msl _ _ _ _ _ arr e fz h1 h2 h3 => exact .msl _ _ _ _ _ arr e fz h1 h2 h3
theorem Plain.ptr (b off : Nat) : Plain (.ptr b off) := fun w O O' v h => by cases h; exact .ptr _ _
theorem Plain.nilptr : Plain .nilptr := fun w O O' v h => by cases h; exact .nilptr
theorem Plain.tup {xs : List V} (hx : ∀ x ∈ xs, Plain x) : Plain (.tup xs) := fun w O O' v h => by
 cases h with
 | tup _ vs hl hr => exact .tup xs vs hl fun i x hi => hx x (List.mem_of_getElem? hi) w O O' _ (hr i x hi)
theorem Plain.agg {xs : List V} (hx : ∀ x ∈ xs, Plain x) : Plain (.agg xs) := fun w O O' v h => by
 cases h with
 | agg _ vs hl h1 hr => exact .agg xs vs hl h1 fun i x hi => hx x (List.mem_of_getElem? hi) w O O' _ (hr i x hi)
theorem Plain.ints {xs : List Int} : ∀ c ∈ ints xs, Plain c := by
 intro c hc; simp only [Lg.ints, List.mem_map] at hc; obtain ⟨x, _, rfl⟩ := hc; exact .int _ _
theorem ACalls.lend {P : Program} {Γ : St} {f : FuncId} {args args' : List V} {σ : St} {Q : V → St → Prop} (h : ACalls P Γ f args' emp Q) (hl : args.length = args'.length) (hfz : ∀ (i : Nat) (x y : V), args[i]? = some x → args'[i]? = some y → Frz σ emp x y)
  (hQ : ∀ r s, Q r s → Plain r ∧ ∀ b cs, s b = some cs → ∀ c ∈ cs, Plain c) : ACalls P Γ f args σ fun r s => ∃ s', s = cup s' σ ∧ disj s' σ ∧ Q r s' := by
 refine ⟨h.1, fun τ w cargs h1 h2 h3 h4 => ?_⟩
 have hle : ∀ b cs, emp b = some cs → σ b = some cs := fun b cs hb => by cases hb
 have hno : ∀ b, ¬ own (cup emp emp) b := fun b hb => by simp [own, cup, emp] at hb
 refine (h.2 emp w cargs (disj_emp _) (fun b cs hb => by simp [cup, emp] at hb) (h3.keep ((Keep.refl w _).less fun b hb => absurd hb (hno b))) ⟨by rw [← hl]; exact h4.1, fun i y hy => ?_⟩).mono ?_
 ·have hi : i < args.length := by rw [hl]; exact (List.getElem?_eq_some_iff.1 hy).1
  have hx : args[i]? = some args[i] := by simp [hi]
  exact ((hfz i _ y hx hy).rep h2 h1 hle (h4.2 i _ hx)).less fun b hb => absurd hb (hno b)
 ·rintro e w' ⟨r, v, s, rfl, hq, p1, p2, p3, p4⟩
  obtain ⟨q1, q2⟩ := hQ r s hq
  have hnew : ∀ b cs, s b = some cs → w.heap.size ≤ b := fun b cs hb => by
   rcases p4.own b (by simp [own, cup, hb]) with h | h
   ·exact absurd h (hno b)
   ·exact h
  have hfar : ∀ b cs, s b = some cs → σ b = none ∧ τ b = none := fun b cs hb => by
   have hge := hnew b cs hb
   constructor
   ·cases hm : σ b with
    | none => rfl
    | some c => have := h2.lt (b := b) (by simp [own, cup, hm]); omega
   ·cases hm : τ b with
    | none => rfl
    | some c =>
     have := h2.lt (b := b) (by unfold own cup; cases σ b <;> simp [hm])
     omega
  have hk : Keep w w' (own (cup σ τ)) (own (cup (cup s σ) τ)) := by
   refine ⟨p4.size, fun b hb _ => p4.same b hb (hno b), p4.shape, fun b hb => ?_, p4.io⟩
   cases hm : s b with
   | some c => exact .inr (hnew b c hm)
   | none => refine .inl ?_; unfold own cup at *; rw [hm] at hb; exact hb
  have hdj : disj s σ := fun b => by
   cases hm : s b with
   | none => exact .inl rfl
   | some c => exact .inr (hfar b c hm).1
  refine ⟨r, v, cup s σ, rfl, ⟨s, rfl, hdj, hq⟩, ?_, ?_, q1 _ _ _ _ p3, hk⟩
  ·intro b
   cases hm : s b with
   | some c => exact .inr (hfar b c hm).2
   | none =>
    rcases h1 b with h | h
    ·exact .inl (by simp [cup, hm, h])
    ·exact .inr h
  ·intro b cs hb
   cases hm : s b with
   | some c =>
    have hc : c = cs := by simp [cup, hm] at hb; exact hb
    subst hc
    obtain ⟨arr, e, fz, g1, g2, g3, g4⟩ := p2 b c (by simp [cup, hm])
    exact ⟨arr, e, fz, g1, g2, g3, fun i x hx => ⟨(g4 i x hx).1, q2 b c hm x (List.mem_of_getElem? hx) _ _ _ _ (g4 i x hx).2⟩⟩
   | none =>
    have hb' : cup σ τ b = some cs := by unfold cup at *; rw [hm] at hb; exact hb
    obtain ⟨arr, e, fz, g1, g2, g3, g4⟩ := h2 b cs hb'
    have hlt := h2.lt (own_of_some hb')
    exact ⟨arr, e, fz, by rw [p4.same b hlt (hno b)]; exact g1, g2, g3, fun i x hx => ⟨(g4 i x hx).1, (g4 i x hx).2.keep hk⟩⟩
/-- A callee that answers with numbers alone and leaves memory as it was. -/
theorem Ret.lend {P : Program} {Γ : St} {f : FuncId} {args args' : List V} {σ : St} {r : V} (h : Ret P Γ f args' emp r emp) (hl : args.length = args'.length) (hfz : ∀ (i : Nat) (x y : V), args[i]? = some x → args'[i]? = some y → Frz σ emp x y) (hr : Plain r) : Ret P Γ f args σ r σ :=
 ACalls.mono P Γ (ACalls.lend (σ := σ) h hl hfz fun r' s ⟨e1, e2⟩ => by subst e1 e2; exact ⟨hr, fun b cs hb => by cases hb⟩) fun r' s ⟨s', e, _, e1, e2⟩ => ⟨e1, by rw [e, e2]; rfl⟩
/-- Frz, argument by argument. -/
def frzL (σ σ' : St) : List V → List V → Prop
 | [], [] => True
 | x :: r, y :: q => Frz σ σ' x y ∧ frzL σ σ' r q
 | _, _ => False
theorem frzL_len {σ σ' : St} : ∀ {xs ys : List V}, frzL σ σ' xs ys → xs.length = ys.length := by
 intro xs
 induction xs with
 | nil => intro ys h; cases ys with
  | nil => rfl
  | cons => exact h.elim
 | cons x r ih => intro ys h; cases ys with
  | nil => exact h.elim
  | cons y q => simp only [List.length_cons, ih h.2]
theorem frzL_get {σ σ' : St} : ∀ {xs ys : List V}, frzL σ σ' xs ys → ∀ (i : Nat) (x y : V), xs[i]? = some x → ys[i]? = some y → Frz σ σ' x y := by
 intro xs
 induction xs with
 | nil => intro ys h i x y hx; simp at hx
 | cons x r ih =>
  intro ys h i a b ha hb
  cases ys with
  | nil => exact h.elim
  | cons y q =>
   cases i with
   | zero => simp at ha hb; subst ha hb; exact h.1
   | succ i => simp at ha hb; exact ih h.2 i a b ha hb
theorem Ret.lendL {P : Program} {Γ : St} {f : FuncId} {args args' : List V} {σ : St} {r : V} (h : Ret P Γ f args' emp r emp) (hfz : frzL σ emp args args') (hr : Plain r) : Ret P Γ f args σ r σ := Ret.lend h (frzL_len hfz) (frzL_get hfz) hr
theorem frz_agg {σ σ' : St} {xs ys : List V} (h : frzL σ σ' xs ys) (h1 : ∀ y ∈ ys, y.one = true) : Frz σ σ' (.agg xs) (.agg ys) := .agg _ _ (frzL_len h) (fun i x hx => h1 x (List.mem_of_getElem? hx)) fun i x y hy hx => frzL_get h i y x hy hx
theorem frz_tup {σ σ' : St} {xs ys : List V} (h : frzL σ σ' xs ys) : Frz σ σ' (.tup xs) (.tup ys) := .tup _ _ (frzL_len h) fun i x y hy hx => frzL_get h i y x hy hx
/-- A row of one-celled values that is owned, lent. -/
theorem frz_row {σ σ' : St} {b len cap : Nat} {cs : List V} (hb : σ b = some cs) (hb' : σ' b = none) (hl : cs.length = len) (h1 : ∀ x ∈ cs, x.one = true) : Frz σ σ' (.msl b 1 0 len cap) (.isl false 1 cs) := Frz.row hb hb' (List.take_of_length_le (by omega)) hl h1
section
variable {P : Program} {Γ σ : St} {f : FuncId} {n : Nat} {Q : V → St → Prop} {k : List It} {T : Ts}
/-- Where what is written is new. -/
theorem DRun.mixN {t : DT} {segs : List DT} (hr : rdOK t = true) (h : DSW P Γ σ t T emp fun T s => WD P Γ f n Q k segs T (cup s σ)) : DRun P Γ f n Q (t :: segs) k T σ :=
 ⟨emp, σ, disj_emp_left σ, rfl, DS.mono (fun T s hw => hw.sound) (DS.of hr h)⟩
end
theorem cup_new (σ : St) (b : Nat) (c : List V) : cup (upd emp b c) σ = upd σ b c := by rw [cup_upd]; rfl
theorem disj_new {σ : St} {b : Nat} {c : List V} (h : disj (upd emp b c) σ) : σ b = none := (h b).resolve_left (by rw [upd_same]; simp)
attribute [go_sem] iteW_T iteW_F guardW_Tt guardW_Tf guardW_Ff guardW_Ft wrap64 wrapU64 stepW_iaddr_ints stepW_iaddr_map stepW_iaddr_own stepW_idxs_at stepK_iaddr_ints stepK_iaddr_map stepK_iaddr_own stepK_idxs_at int_beq int_bne not_dec dec_True dec_False bif_T bif_F upd_ne Int.toNat_natCast Int.cast_ofNat_Int ints_len List.getD_cons_zero List.getD_cons_succ
end Go.Proofs.Ytdenfjbhkdhlkaa.Lg
