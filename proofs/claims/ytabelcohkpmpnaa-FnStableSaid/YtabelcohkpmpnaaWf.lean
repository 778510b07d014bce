/- Routes, the reference's: the routes that choices make. -/
import Derived.Test.YtabelcohkpmpnaaWe
set_option linter.unusedSimpArgs false
set_option linter.unusedVariables false
namespace Go.Proofs.Ytabelcohkpmpnaa.Lg
open Go
attribute [local irreducible] SRun DS DRun
variable {Γ : St} {σ σ0 : St}
theorem frz_rows {σ' : St} {b es cap : Nat} {xs : List V} (hb : σ b = some (flat xs)) (hb' : σ' b = none) (hx : ∀ y ∈ xs, y.cells.length = es ∧ ∀ c ∈ y.cells, c.one = true) : Frz σ σ' (.msl b es 0 xs.length cap) (.isl false es xs) := by
  have hfl : (flat xs).length = xs.length * es := flat_length fun x hm => (hx x hm).1
  refine .msl b es 0 xs.length cap (flat xs) xs hb hb' (by omega) rfl (fun x hm => (hx x hm).1) hfl (fun i x hi => flat_ones (fun x hm => (hx x hm).2) x (List.mem_of_getElem? hi)) (fun i x y hy hx' => ?_)
  rw [Nat.zero_add] at hy
  rw [hy] at hx'; obtain rfl := Option.some.inj hx'; exact .refl _
theorem set_append4 {a b c d : V} {r : List V} : ∀ (k : Nat) (x : V), ((a :: b :: c :: d :: r).set (k + 4) x) = a :: b :: c :: d :: r.set k x := fun k x => rfl
theorem sets_shift {a b c d : V} : ∀ (ys r : List V) (k : Nat), sets (a :: b :: c :: d :: r) (k + 4) ys = a :: b :: c :: d :: sets r k ys := by
  intro ys
  induction ys with
  | nil => intro r k; rfl
  | cons y ys ih => intro r k; simp only [sets, set_append4]; rw [show k + 4 + 1 = (k + 1) + 4 by omega, ih]
theorem sets_rts : ∀ (rs : List Rt) (i : Nat) (r : Rt), i < rs.length → sets (flat (rtsV rs)) (i * 4) (rtC r) = flat (rtsV (rs.set i r)) := by
  intro rs
  induction rs with
  | nil => intro i r h; simp at h
  | cons a rs ih =>
    intro i r h
    cases i with
    | zero => rfl
    | succ i =>
      have := ih i r (by simpa using h)
      have e : flat (rtsV (a :: rs)) = .int .i64 a.via :: .int .i64 a.pref :: .int .i64 a.len :: .bool a.mark :: flat (rtsV rs) := rfl
      rw [e, show (i + 1) * 4 = i * 4 + 4 by omega, sets_shift, this]; rfl
theorem flat_rts_len (rs : List Rt) : (flat (rtsV rs)).length = rs.length * 4 := by
  have := flat_length (es := 4) (xs := rtsV rs) fun x hx => (rts_ok rs x hx).1
  rw [this, rtsV_len]
theorem bools_get {bs : List Bool} {i : Nat} (h : i < bs.length) : (bools bs)[i]? = some (.bool (bs.getD i false)) := by simp [bools, List.getD, h]
theorem bools_set {bs : List Bool} {i : Nat} {x : Bool} : (bools bs).set i (.bool x) = bools (bs.set i x) := by simp [bools, List.map_set]
theorem ofI_w {n : Net} (hn : NetR n) {down : List Bool} {s : List Rt × List Bool} (h : OfI n down s) (hl : s.1.length = n.routers.length) : RtsW s.1 := by
  have r1 := hn.r1
  have r4 := hn.r4
  have hc : s.2.count true ≤ s.2.length := List.count_le_length
  have hlen := h.len
  have hd : ∀ v : Int, ¬ v.toNat < s.1.length → rtAt s.1 v = default := fun v hv => by simp [rtAt, List.getD, List.getElem?_eq_none (by omega : s.1.length ≤ v.toNat)]
  constructor
  · intro v
    by_cases hv : v.toNat < s.1.length
    · have := (h.ok _ hv).via.2
      unfold rtAt; omega
    · rw [hd v hv]; show (0 : Int) < _; omega
  · intro v
    by_cases hv : v.toNat < s.1.length
    · have := (h.ok _ hv).len
      unfold rtAt; omega
    · rw [hd v hv]; show (0 : Int) ≤ 0 ∧ (0 : Int) ≤ _; omega
section
variable (n : Net) (env : List Int) (down : List Bool) (vias : List Int)
def ofEnd (s : List Rt × List Bool) : Option (List Rt) := if s.2.all id then some s.1 else none
def ofR (m : Nat) (s : List Rt × List Bool) : Option (List Rt) := ((List.range' m (vias.length + 1 - m)).foldlM (fun s _ => ofRound n env down vias s) s).bind ofEnd
def ofJ (m i : Nat) (s : List Rt × List Bool) : Option (List Rt) := ((List.range' i (vias.length - i)).foldlM (ofStep n env down vias) s).bind (ofR n env down vias (m + 1))
variable {n env down vias}
theorem ofP_R : ofP n env down vias = ofR n env down vias 0 (List.replicate vias.length noRt, List.replicate vias.length false) := by
  unfold ofP ofR; rw [List.range_eq_range']; rfl
theorem ofR_J {m : Nat} {s : List Rt × List Bool} (h : m ≤ vias.length) : ofR n env down vias m s = ofJ n env down vias m 0 s := by
  unfold ofR ofJ
  rw [show vias.length + 1 - m = (vias.length - m) + 1 by omega, List.range'_succ, List.foldlM_cons]
  show (Option.bind (ofRound n env down vias s) _).bind ofEnd = _
  unfold ofRound
  rw [List.range_eq_range', Nat.sub_zero, Option.bind_assoc]
  congr 1
  funext t
  unfold ofR
  rw [show vias.length + 1 - (m + 1) = vias.length - m by omega]
  simp only [ofRound, List.range_eq_range']
theorem ofJ_end {m : Nat} {s : List Rt × List Bool} : ofJ n env down vias m vias.length s = ofR n env down vias (m + 1) s := by
  unfold ofJ; rw [Nat.sub_self]; rfl
theorem ofJ_step {m i : Nat} {s : List Rt × List Bool} (h : i < vias.length) : ofJ n env down vias m i s = (ofStep n env down vias s i).bind (ofJ n env down vias m (i + 1)) := by
  unfold ofJ
  rw [show vias.length - i = (vias.length - (i + 1)) + 1 by omega, List.range'_succ, List.foldlM_cons]
  show (Option.bind _ _).bind _ = _
  rw [Option.bind_assoc]
theorem ofR_end {s : List Rt × List Bool} : ofR n env down vias (vias.length + 1) s = ofEnd s := by
  unfold ofR; rw [Nat.sub_self]; rfl
end
/-- What is picked: the last that has the way. -/
def pickV (v : Int) (l : List Rt) (o : List Rt) (i : Nat) : List Rt := match (l.filter fun r => decide (r.via = v)).getLast? with | none => o | some r => o.set i r
def hasV (v : Int) (l : List Rt) : Bool := l.any fun r => decide (r.via = v)
theorem pickV_snoc {v : Int} {l o : List Rt} {i : Nat} {r : Rt} : pickV v (l ++ [r]) o i = if r.via = v then (pickV v l o i).set i r else pickV v l o i := by
  unfold pickV
  rw [List.filter_append]
  by_cases h : r.via = v
  · rw [if_pos h]
    have : [r].filter (fun r => decide (r.via = v)) = [r] := by simp [h]
    rw [this, List.getLast?_append]
    simp only [List.getLast?_singleton, Option.or_some, Option.getD_some, Option.some_or]
    cases (l.filter fun r => decide (r.via = v)).getLast? <;> simp
  · rw [if_neg h]
    have : [r].filter (fun r => decide (r.via = v)) = [] := by simp [h]
    rw [this, List.append_nil]
theorem hasV_snoc {v : Int} {l : List Rt} {r : Rt} : hasV v (l ++ [r]) = (hasV v l || decide (r.via = v)) := by simp [hasV, List.any_append]
theorem pickV_len {v : Int} {l o : List Rt} {i : Nat} : (pickV v l o i).length = o.length := by unfold pickV; split <;> simp
theorem ofStep_pick {n : Net} {env : List Int} {down : List Bool} {vias : List Int} {s : List Rt × List Bool} {i : Nat} (h1 : s.2.getD i false = false) (h2 : ¬ (0 ≤ vias.getD i 0 ∧ s.2.getD (vias.getD i 0).toNat false = false)) (h3 : vias.getD i 0 ≠ -3) :
    ofStep n env down vias s i = if hasV (vias.getD i 0) (candP n i env down s.1) then some (pickV (vias.getD i 0) (candP n i env down s.1) s.1 i, s.2.set i true) else none := by
  unfold ofStep
  rw [if_neg (by rw [h1]; simp; intro h; have := h2; simp at this; exact this h), if_neg h3]
  unfold pickV hasV
  cases hg : ((candP n i env down s.1).filter fun r => decide (r.via = vias.getD i 0)).getLast? with
  | none =>
    rw [List.getLast?_eq_none_iff, List.filter_eq_nil_iff] at hg
    rw [if_neg (by rw [Bool.not_eq_true, List.any_eq_false]; exact hg)]
  | some r =>
    have hm := List.mem_of_getLast? hg
    rw [List.mem_filter] at hm
    rw [if_pos (List.any_eq_true.2 ⟨r, hm.1, hm.2⟩)]
theorem flat_false (m : Nat) : (List.replicate m [V.bool false]).flatten = bools (List.replicate m false) := by
  induction m with
  | zero => rfl
  | succ m ih => rw [List.replicate_succ, List.flatten_cons, ih]; rfl
set_option maxHeartbeats 2000000 in
theorem l07Of_ok {n : Net} {ex ex2 ex3 : Bool} {env : List Int} {down : List Bool} {vias : List Int} (hn : NetR n) (ho : n.origins.length ≤ 1000000000000) (he : env.length = n.externals.length) (hd : down.length = n.links.length) (hl : vias.length = n.routers.length) (hv : ∀ v ∈ vias, v < vias.length) :
    ACalls Try.prog Γ 113 [netV n, .isl ex 1 (ints env), .isl ex2 1 (bools down), .isl ex3 1 (ints vias)] σ fun r s => s = σ ∧ ∃ rs', r = .tup [.isl false 4 (rtsV rs'), .bool (ofP n env down vias).isSome] ∧ ∀ rs, ofP n env down vias = some rs → rs' = rs := by
  have r1 := hn.r1
  have r4 := hn.r4
  have hlen : (netC n).take 6 = netC n := rfl
  have hlen2 : (netC n).length = 6 := rfl
  refine acalls_W c113_ok rfl ?_
  simp (disch := omega) only [c113, netV, go_sem, ↓if_pos, ne_eq, ↓reduceIte]
  refine SRun.boxR (net_one n) ?_
  intro b4 hb4
  have g4 := upd_same σ b4 (netC n)
  have hσ : ∀ d x, σ d = some x → upd σ b4 (netC n) d = some x := le_upd hb4
  simp (disch := omega) only [go_sem, ↓if_pos, ne_eq, ↓reduceIte]
  generalize upd σ b4 (netC n) = s1 at *
  refine W_loopC (α := Nat × V × St) (fun p => p.1 ≤ vias.length ∧ OwnL s1 4 (rtsV (List.replicate p.1 noRt)) p.2.1 p.2.2) (fun p => [(1, .isl ex 1 (ints env)), (2, .isl ex2 1 (bools down)), (3, .isl ex3 1 (ints vias)), (4, .ptr b4 0), (10, p.2.1), (11, .int .i64 (p.1 : Nat))]) (fun p => p.2.2) (fun p => vias.length - p.1) (0, _, _) ⟨by simp, OwnL.nil _ 4⟩ (by simp (disch := omega) only [subT, Int.natCast_add, Int.cast_ofNat_Int, go_sem, ↓if_pos, ne_eq, ↓reduceIte] <;> (repeat' apply And.intro) <;> first | rfl | (congr 1; omega) | assumption) rfl ?_
  rintro ⟨i, q, s⟩ ⟨hi, ho1⟩ ih
  dsimp only at hi ho1
  simp (disch := omega) only [go_sem, ↓if_pos, ne_eq, ↓reduceIte]
  first | refine iteW_dec (fun h1 => ?_) (fun h1 => ?_) | refine iteW_of (fun h1 => ?_) (fun h1 => ?_)
  · simp (disch := omega) only [go_sem, ↓if_pos, ne_eq, ↓reduceIte]
    refine SRun.callR l07None_ok ⟨[], rfl, rfl⟩ rfl ?_
    have hnr : rtC noRt = [.int .i64 (-3), .int .i64 0, .int .i64 0, .bool false] := rfl
    simp (disch := omega) only [hnr, go_sem, ↓if_pos, ne_eq, ↓reduceIte]
    refine SRun.appL ho1 rfl (rt1_ok noRt) (by rw [rtsV_len, List.length_replicate]; simp only [List.length_singleton]; omega) ?_
    intro q2 s2 ho2
    have ha := rts_app (List.replicate i noRt) noRt
    rw [hnr] at ha
    rw [ha, ← List.replicate_succ'] at ho2
    simp (disch := omega) only [go_sem, ↓if_pos, ne_eq, ↓reduceIte]
    exact ih (i + 1, q2, s2) _ _ ⟨by simp only; omega, ho2⟩ (by simp only; omega) (by simp (disch := omega) only [subT, Int.natCast_add, Int.cast_ofNat_Int, go_sem, ↓if_pos, ne_eq, ↓reduceIte] <;> (repeat' apply And.intro) <;> first | rfl | (congr 1; omega) | assumption) rfl
  clear ih
  have hir : i = vias.length := by omega
  subst hir
  obtain ⟨bo, cap, rfl, gbo, hcap, hbo, rfl⟩ := ho1.at (by
    intro e
    have := congrArg List.length e
    rw [rtsV_len, List.length_replicate] at this
    simp only [List.length_nil] at this; omega)
  rw [rtsV_len, List.length_replicate]
  simp (disch := omega) only [go_sem, ↓if_pos, ne_eq, ↓reduceIte]
  refine SRun.mkslR (n' := vias.length) (m := vias.length) rfl rfl rfl (Nat.le_refl _) (by omega) (by omega) ?_
  intro bd hbd
  rw [flat_false]
  have n1 := upd_none.1 hbd
  have hdo : bd ≠ bo := n1.1
  have hod : bo ≠ bd := n1.1.symm
  have hb4o : b4 ≠ bo := fun e => by subst e; rw [g4] at hbo; cases hbo
  have hb4d : b4 ≠ bd := fun e => by subst e; rw [g4] at n1; cases n1.2
  have gm4 : ∀ x y, upd (upd s1 bo x) bd y b4 = some (netC n) := fun x y => by rw [upd_ne _ _ hb4d, upd_ne _ _ hb4o]; exact g4
  have gmo : ∀ x y, upd (upd s1 bo x) bd y bo = some x := fun x y => by rw [upd_ne _ _ hod, upd_same]
  have hso : ∀ x y z, upd (upd (upd s1 bo x) bd y) bo z = upd (upd s1 bo z) bd y := fun x y z => by rw [upd_comm _ hod.symm, upd_upd]
  have hmσ : ∀ x y d z, σ d = some z → upd (upd s1 bo x) bd y d = some z := fun x y d z h => le_two hbo n1.2 x y d z (hσ _ _ h)
  have hfz : ∀ (rs : List Rt) y, rs.length = vias.length → Frz (upd (upd s1 bo (flat (rtsV rs))) bd y) σ (.msl bo 4 0 vias.length cap) (.isl false 4 (rtsV rs)) := fun rs y hr => by
    have := frz_rows (σ := upd (upd s1 bo (flat (rtsV rs))) bd y) (σ' := σ) (b := bo) (es := 4) (cap := cap) (xs := rtsV rs) (gmo _ _) (by
      cases e : σ bo with
      | none => rfl
      | some c => rw [hσ _ _ e] at hbo; cases hbo) (rts_ok rs)
    rwa [rtsV_len, hr] at this
  have hfze : ∀ (rs : List Rt) y, rs.length = vias.length → Frz (upd (upd s1 bo (flat (rtsV rs))) bd y) emp (.msl bo 4 0 vias.length cap) (.isl false 4 (rtsV rs)) := fun rs y hr => by
    have := frz_rows (σ := upd (upd s1 bo (flat (rtsV rs))) bd y) (σ' := emp) (b := bo) (es := 4) (cap := cap) (xs := rtsV rs) (gmo _ _) rfl (rts_ok rs)
    rwa [rtsV_len, hr] at this
  clear h1 hi gbo hbd ho1
  simp (disch := omega) only [go_sem, ↓if_pos, ne_eq, ↓reduceIte]
  refine W_loopC (α := Nat × List Rt × List Bool) (fun p => p.1 ≤ vias.length + 1 ∧ p.2.1.length = vias.length ∧ p.2.2.length = vias.length ∧ OfI n down p.2 ∧ ofP n env down vias = ofR n env down vias p.1 p.2) (fun p => [(1, .isl ex 1 (ints env)), (2, .isl ex2 1 (bools down)), (3, .isl ex3 1 (ints vias)), (4, .ptr b4 0), (10, .msl bo 4 0 vias.length cap), (12, .msl bd 1 0 vias.length vias.length), (13, .int .i64 (p.1 : Nat))]) (fun p => upd (upd s1 bo (flat (rtsV p.2.1))) bd (bools p.2.2)) (fun p => vias.length + 1 - p.1) (0, List.replicate vias.length noRt, List.replicate vias.length false) ⟨by simp, by simp, by simp, ofI_start n down _, ofP_R⟩ (by simp (disch := omega) only [subT, Int.natCast_add, Int.cast_ofNat_Int, go_sem, ↓if_pos, ne_eq, ↓reduceIte] <;> (repeat' apply And.intro) <;> first | rfl | (congr 1; omega) | assumption) rfl ?_
  rintro ⟨m, rs, ds⟩ ⟨hm, hrl, hdl, hI, hP⟩ ih
  dsimp only at hm hrl hdl hI hP
  simp (disch := omega) only [go_sem, ↓if_pos, ne_eq, ↓reduceIte]
  first | refine iteW_dec (fun h1 => ?_) (fun h1 => ?_) | refine iteW_of (fun h1 => ?_) (fun h1 => ?_)
  · rw [ofR_J (by omega)] at hP
    simp (disch := omega) only [go_sem, ↓if_pos, ne_eq, ↓reduceIte]
    refine W_loopC (α := Nat × List Rt × List Bool) (fun p => p.1 ≤ vias.length ∧ p.2.1.length = vias.length ∧ p.2.2.length = vias.length ∧ OfI n down p.2 ∧ ofP n env down vias = ofJ n env down vias m p.1 p.2) (fun p => [(1, .isl ex 1 (ints env)), (2, .isl ex2 1 (bools down)), (3, .isl ex3 1 (ints vias)), (4, .ptr b4 0), (10, .msl bo 4 0 vias.length cap), (12, .msl bd 1 0 vias.length vias.length), (13, .int .i64 (m : Nat)), (14, .int .i64 (p.1 : Nat))]) (fun p => upd (upd s1 bo (flat (rtsV p.2.1))) bd (bools p.2.2)) (fun p => vias.length - p.1) (0, rs, ds) ⟨by simp, hrl, hdl, hI, hP⟩ (by simp (disch := omega) only [subT, Int.natCast_add, Int.cast_ofNat_Int, go_sem, ↓if_pos, ne_eq, ↓reduceIte] <;> (repeat' apply And.intro) <;> first | rfl | (congr 1; omega) | assumption) rfl ?_
    clear hI hP hrl hdl
    rintro ⟨i, rs, ds⟩ ⟨hi, hrl, hdl, hI, hP⟩ ih2
    dsimp only at hi hrl hdl hI hP
    have hds := fun (k : Nat) (hk : k < vias.length) => bools_get (bs := ds) (i := k) (by omega)
    have hbl : (bools ds).length = vias.length := by rw [bools_len]; exact hdl
    simp (disch := omega) only [go_sem, ↓if_pos, ne_eq, ↓reduceIte]
    first | refine iteW_dec (fun h2 => ?_) (fun h2 => ?_) | refine iteW_of (fun h2 => ?_) (fun h2 => ?_)
    · rw [ofJ_step (by omega)] at hP
      have hvi := hv _ (getD_mem 0 (by omega : i < vias.length))
      have hgi := hds i (by omega)
      have hstep := ofStep_pick (n := n) (env := env) (down := down) (vias := vias) (s := (rs, ds)) (i := i)
      have hdef : ofStep n env down vias (rs, ds) i = if ds.getD i false ∨ (0 ≤ vias.getD i 0 ∧ ds.getD (vias.getD i 0).toNat false = false) then some (rs, ds) else if vias.getD i 0 = -3 then some (rs, ds.set i true) else match ((candP n i env down rs).filter fun r => decide (r.via = vias.getD i 0)).getLast? with | none => none | some r => some (rs.set i r, ds.set i true) := rfl
      have hinv := fun t => ofStep_inv hn (env := env) (down := down) (vias := vias) (s := (rs, ds)) (t := t) (i := i) (by rw [hrl]; omega) hI
      dsimp only at hstep
      have hskip : ofStep n env down vias (rs, ds) i = some (rs, ds) → ofP n env down vias = ofJ n env down vias m (i + 1) (rs, ds) := fun e => by rw [hP, e]; rfl
      generalize hgv : vias.getD i 0 = v at *
      generalize hgd : ds.getD i false = di at *
      have hsome := fun t (e : ofStep n env down vias (rs, ds) i = some t) => (by rw [hP, e]; rfl : ofP n env down vias = ofJ n env down vias m (i + 1) t)
      simp (disch := omega) only [hgi, hgv, go_sem, ↓if_pos, ne_eq, ↓reduceIte]
      cases di with
      | true =>
        simp (disch := omega) only [go_sem, ↓if_pos, ne_eq, ↓reduceIte]
        exact ih2 (i + 1, rs, ds) _ _ ⟨by simp only; omega, hrl, hdl, hI, hskip (by rw [hdef, if_pos (.inl rfl)])⟩ (by simp only; omega) (by simp (disch := omega) only [subT, Int.natCast_add, Int.cast_ofNat_Int, go_sem, ↓if_pos, ne_eq, ↓reduceIte] <;> (repeat' apply And.intro) <;> first | rfl | (congr 1; omega) | assumption) rfl
      | false =>
      by_cases c0 : 0 ≤ v ∧ ds.getD v.toNat false = false
      · have hgv2 := hds v.toNat (by omega)
        rw [c0.2] at hgv2
        have d1 : decide (v ≥ 0) = true := decide_eq_true c0.1
        simp (disch := omega) only [hgv2, d1, go_sem, ↓if_pos, ne_eq, ↓reduceIte]
        exact ih2 (i + 1, rs, ds) _ _ ⟨by simp only; omega, hrl, hdl, hI, hskip (by rw [hdef, if_pos (.inr c0)])⟩ (by simp only; omega) (by simp (disch := omega) only [subT, Int.natCast_add, Int.cast_ofNat_Int, go_sem, ↓if_pos, ne_eq, ↓reduceIte] <;> (repeat' apply And.intro) <;> first | rfl | (congr 1; omega) | assumption) rfl
      · have hno : ¬ (false = true ∨ 0 ≤ v ∧ ds.getD v.toNat false = false) := by simpa using c0
        by_cases h3 : v = -3
        · have d1 : decide (v ≥ 0) = false := decide_eq_false (by omega)
          have d3 : decide (v = -3) = true := decide_eq_true h3
          have e1 : ofStep n env down vias (rs, ds) i = some (rs, ds.set i true) := by rw [hdef, if_neg hno, if_pos h3]
          simp (disch := omega) only [d1, d3, upd_upd, bools_set, go_sem, ↓if_pos, ne_eq, ↓reduceIte]
          exact ih2 (i + 1, rs, ds.set i true) _ _ ⟨by simp only; omega, hrl, by simpa using hdl, (hinv _ e1).1, hsome _ e1⟩ (by simp only; omega) (by simp (disch := omega) only [subT, Int.natCast_add, Int.cast_ofNat_Int, go_sem, ↓if_pos, ne_eq, ↓reduceIte] <;> (repeat' apply And.intro) <;> first | rfl | (congr 1; omega) | assumption) rfl
        have d3 : decide (v = -3) = false := decide_eq_false h3
        by_cases c1 : v ≥ 0
        case' pos =>
          have hgv2 := hds v.toNat (by omega)
          have c2 : ds.getD v.toNat false = true := by
            cases e : ds.getD v.toNat false with
            | true => rfl
            | false => exact absurd ⟨c1, e⟩ c0
          rw [c2] at hgv2
          have d1 : decide (v ≥ 0) = true := decide_eq_true c1
          simp (disch := omega) only [hgv2, d1, d3, upd_upd, bools_set, gm4, hlen, hlen2, go_sem, ↓if_pos, ne_eq, ↓reduceIte]
        case' neg =>
          have d1 : decide (v ≥ 0) = false := decide_eq_false c1
          simp (disch := omega) only [d1, d3, upd_upd, bools_set, gm4, hlen, hlen2, go_sem, ↓if_pos, ne_eq, ↓reduceIte]
        all_goals
          · have hst := hstep rfl c0 h3
            have hcl : (candP n i env down rs).length ≤ 1000000000000 := by
              have h1 := List.length_filterMap_le (viaO n i rs) (nearP n i down)
              have h2 := List.length_filter_le (nearB n i down) (List.range n.routers.length)
              have h3 : (nearP n i down).length ≤ n.routers.length := by unfold nearP; rw [List.length_map]; simpa using h2
              have h4 : (ownL n i).length ≤ 1 := by unfold ownL; split <;> simp
              have h5 : (outL n i env).length ≤ 1 := by unfold outL; split <;> simp
              simp only [candP, List.length_append]; omega
            have hC := fun y => l07Candidates_lend (Γ := Γ) (σ := upd (upd s1 bo (flat (rtsV rs))) bd y) (ex := ex) (ex2 := ex2) (router := (i : Nat)) hn ho he hd (hrl.trans hl) (ofI_w hn hI (hrl.trans hl)) (hfze rs y hrl)
            refine SRun.callR (hC _) ⟨[], rfl, rfl⟩ rfl ?_
            generalize candP n i env down rs = cd at *
            simp (disch := omega) only [go_sem, ↓if_pos, ne_eq, ↓reduceIte]
            refine W_loopC (α := Nat) (fun k => k ≤ cd.length) (fun k => [(1, .isl ex 1 (ints env)), (2, .isl ex2 1 (bools down)), (3, .isl ex3 1 (ints vias)), (4, .ptr b4 0), (10, .msl bo 4 0 vias.length cap), (12, .msl bd 1 0 vias.length vias.length), (13, .int .i64 (m : Nat)), (14, .int .i64 (i : Nat)), (15, .int .i64 v), (16, .bool (hasV v (cd.take k))), (17, .isl false 4 (rtsV cd)), (18, .int .i64 (k : Nat))]) (fun k => upd (upd s1 bo (flat (rtsV (pickV v (cd.take k) rs i)))) bd (bools (ds.set i true))) (fun k => cd.length - k) 0 (by omega) (by simp (disch := omega) only [subT, Int.natCast_add, Int.cast_ofNat_Int, go_sem, ↓if_pos, ne_eq, ↓reduceIte] <;> (repeat' apply And.intro) <;> first | rfl | (congr 1; omega) | assumption) rfl ?_
            intro k hk ih3
            simp (disch := omega) only [go_sem, ↓if_pos, ne_eq, ↓reduceIte]
            first | refine iteW_dec (fun h4 => ?_) (fun h4 => ?_) | refine iteW_of (fun h4 => ?_) (fun h4 => ?_)
            · have htk := take_succ (xs := cd) (i := k) default (by omega)
              have hrt0 : ∀ r : Rt, (rtC r)[0]? = some (.int .i64 r.via) := fun _ => rfl
              have hrt4 : ∀ r : Rt, (rtC r).take 4 = rtC r := fun _ => rfl
              have hrt5 : ∀ r : Rt, (rtC r).length = 4 := fun _ => rfl
              have hpl : (pickV v (cd.take k) rs i).length = rs.length := pickV_len
              have hfl := flat_rts_len (pickV v (cd.take k) rs i)
              have hp := pickV_snoc (v := v) (l := cd.take k) (o := rs) (i := i) (r := cd.getD k default)
              have hh := hasV_snoc (v := v) (l := cd.take k) (r := cd.getD k default)
              have hsr := sets_rts (pickV v (cd.take k) rs i) i (cd.getD k default) (by omega)
              rw [← htk] at hp hh
              simp (disch := omega) only [hrt0, go_sem, ↓if_pos, ne_eq, ↓reduceIte]
              generalize hgx : cd.getD k default = x at *
              first | refine iteW_dec (fun h5 => ?_) (fun h5 => ?_) | refine iteW_of (fun h5 => ?_) (fun h5 => ?_)
              · rw [if_pos h5] at hp
                rw [decide_eq_true h5, Bool.or_true] at hh
                simp (disch := omega) only [hrt4, hrt5, gmo, hfl, hpl, hgx, hsr, hso, go_sem, ↓if_pos, ne_eq, ↓reduceIte]
                exact ih3 (k + 1) _ _ (by omega) (by omega) (by rw [hh]; exact (by simp (disch := omega) only [subT, Int.natCast_add, Int.cast_ofNat_Int, go_sem, ↓if_pos, ne_eq, ↓reduceIte] <;> (repeat' apply And.intro) <;> first | rfl | (congr 1; omega) | assumption)) (by rw [hp])
              · rw [if_neg h5] at hp
                rw [decide_eq_false h5, Bool.or_false] at hh
                simp (disch := omega) only [go_sem, ↓if_pos, ne_eq, ↓reduceIte]
                exact ih3 (k + 1) _ _ (by omega) (by omega) (by rw [hh]; exact (by simp (disch := omega) only [subT, Int.natCast_add, Int.cast_ofNat_Int, go_sem, ↓if_pos, ne_eq, ↓reduceIte] <;> (repeat' apply And.intro) <;> first | rfl | (congr 1; omega) | assumption)) (by rw [hp])
            · have hkl : k = cd.length := by omega
              subst hkl
              clear ih3
              rw [List.take_length]
              have hpl : (pickV v cd rs i).length = rs.length := pickV_len
              simp (disch := omega) only [go_sem, ↓if_pos, ne_eq, ↓reduceIte]
              cases c5 : hasV v cd with
              | true =>
                rw [c5, if_pos rfl] at hst
                simp (disch := omega) only [go_sem, ↓if_pos, ne_eq, ↓reduceIte]
                exact ih2 (i + 1, pickV v cd rs i, ds.set i true) _ _ ⟨by simp only; omega, by simp only; omega, by simpa using hdl, (hinv _ hst).1, hsome _ hst⟩ (by simp only; omega) (by simp (disch := omega) only [subT, Int.natCast_add, Int.cast_ofNat_Int, go_sem, ↓if_pos, ne_eq, ↓reduceIte] <;> (repeat' apply And.intro) <;> first | rfl | (congr 1; omega) | assumption) rfl
              | false =>
                rw [c5, if_neg (by simp)] at hst
                have hnone : ofP n env down vias = none := by rw [hP, hst]; rfl
                rw [hnone]
                simp (disch := omega) only [go_sem, ↓if_pos, ne_eq, ↓reduceIte]
                exact W_retC c113_ok (r := .tup [.msl bo 4 0 vias.length cap, .bool false]) (σ' := σ) (r' := .tup [.isl false 4 (rtsV (pickV v cd rs i)), .bool false]) rfl ⟨hmσ _ _, frz_tup (by exact ⟨hfz _ _ (by omega), .refl _, trivial⟩)⟩ ⟨rfl, _, rfl⟩
    · have hil : i = vias.length := by omega
      subst hil
      rw [ofJ_end] at hP
      simp (disch := omega) only [go_sem, ↓if_pos, ne_eq, ↓reduceIte]
      exact ih (m + 1, rs, ds) _ _ ⟨by simp only; omega, hrl, hdl, hI, hP⟩ (by simp only; omega) (by simp (disch := omega) only [subT, Int.natCast_add, Int.cast_ofNat_Int, go_sem, ↓if_pos, ne_eq, ↓reduceIte] <;> (repeat' apply And.intro) <;> first | rfl | (congr 1; omega) | assumption) rfl
  · have hml : m = vias.length + 1 := by omega
    subst hml
    rw [ofR_end] at hP
    clear ih h1 hm
    simp (disch := omega) only [go_sem, ↓if_pos, ne_eq, ↓reduceIte]
    have hen : ofEnd (rs, ds) = if ds.all id then some rs else none := rfl
    refine W_loopC (α := Nat) (fun i => i ≤ vias.length ∧ (ds.take i).all id = true) (fun i => [(10, .msl bo 4 0 vias.length cap), (12, .msl bd 1 0 vias.length vias.length), (19, .int .i64 (i : Nat))]) (fun _ => upd (upd s1 bo (flat (rtsV rs))) bd (bools ds)) (fun i => vias.length - i) 0 ⟨by omega, rfl⟩ (by simp (disch := omega) only [subT, Int.natCast_add, Int.cast_ofNat_Int, go_sem, ↓if_pos, ne_eq, ↓reduceIte] <;> (repeat' apply And.intro) <;> first | rfl | (congr 1; omega) | assumption) rfl ?_
    rintro i ⟨hi, hall⟩ ih
    simp (disch := omega) only [go_sem, ↓if_pos, ne_eq, ↓reduceIte]
    first | refine iteW_dec (fun h1 => ?_) (fun h1 => ?_) | refine iteW_of (fun h1 => ?_) (fun h1 => ?_)
    · have hgi := bools_get (bs := ds) (i := i) (by omega)
      have htk := take_succ (xs := ds) (i := i) false (by omega)
      have hmem := getD_mem (xs := ds) false (by omega : i < ds.length)
      simp (disch := omega) only [hgi, go_sem, ↓if_pos, ne_eq, ↓reduceIte]
      generalize ds.getD i false = di at *
      cases di with
      | true =>
        simp (disch := omega) only [go_sem, ↓if_pos, ne_eq, ↓reduceIte]
        exact ih (i + 1) _ _ ⟨by omega, by rw [htk, List.all_append, hall]; rfl⟩ (by omega) (by simp (disch := omega) only [subT, Int.natCast_add, Int.cast_ofNat_Int, go_sem, ↓if_pos, ne_eq, ↓reduceIte] <;> (repeat' apply And.intro) <;> first | rfl | (congr 1; omega) | assumption) rfl
      | false =>
        have : ds.all id = false := by rw [List.all_eq_false]; exact ⟨false, hmem, by simp⟩
        rw [hen, if_neg (by rw [this]; simp)] at hP
        rw [hP]
        simp (disch := omega) only [go_sem, ↓if_pos, ne_eq, ↓reduceIte]
        exact W_retC c113_ok (r := .tup [.msl bo 4 0 vias.length cap, .bool false]) (σ' := σ) (r' := .tup [.isl false 4 (rtsV rs), .bool false]) rfl ⟨hmσ _ _, frz_tup (by exact ⟨hfz _ _ (by omega), .refl _, trivial⟩)⟩ ⟨rfl, _, rfl⟩
    · have hil : i = ds.length := by omega
      rw [hil, List.take_length] at hall
      rw [hen, if_pos hall] at hP
      rw [hP]
      simp (disch := omega) only [go_sem, ↓if_pos, ne_eq, ↓reduceIte]
      exact W_retC c113_ok (r := .tup [.msl bo 4 0 vias.length cap, .bool true]) (σ' := σ) (r' := .tup [.isl false 4 (rtsV rs), .bool true]) rfl ⟨hmσ _ _, frz_tup (by exact ⟨hfz _ _ (by omega), .refl _, trivial⟩)⟩ ⟨rfl, _, rfl, fun rs h => h⟩
end Go.Proofs.Ytabelcohkpmpnaa.Lg
