/- Routes that settle: the program's and the reference's. -/
import Derived.Test.YtabelcohkpmpnaaWv
set_option linter.unusedSimpArgs false
set_option linter.unusedVariables false
namespace Go.Proofs.Ytabelcohkpmpnaa.Lg
open Go
attribute [local irreducible] SRun DS DRun
variable {Γ : St} {σ σ0 : St}
structure SetW (n : Net) (down : List Bool) (L : Int) (rs : List Rt) : Prop where
  len : rs.length = n.routers.length
  ok : ∀ i, i < rs.length → RtIn n down L i (rs.getD i default)
theorem SetW.w {n : Net} {down : List Bool} {L : Int} {rs : List Rt} (hn : NetR n) (h : SetW n down L rs) (hL : 0 ≤ L ∧ L ≤ 1000000000) : RtsW rs := by
  have r1 := hn.r1
  have hl := h.len
  have hdf : ∀ v : Int, ¬ v.toNat < rs.length → rtAt rs v = default := fun v hv => by simp [rtAt, List.getD, List.getElem?_eq_none (by omega : rs.length ≤ v.toNat)]
  constructor
  · intro v
    by_cases hv : v.toNat < rs.length
    · have := (h.ok _ hv).via.2
      unfold rtAt; omega
    · rw [hdf v hv]; show (0 : Int) < _; omega
  · intro v
    by_cases hv : v.toNat < rs.length
    · have := (h.ok _ hv).len
      unfold rtAt; omega
    · rw [hdf v hv]; show (0 : Int) ≤ 0 ∧ (0 : Int) ≤ _; omega
theorem bests_w {n : Net} {env : List Int} {down : List Bool} {L : Int} {rs : List Rt} (hn : NetR n) (h : SetW n down L rs) (hL : 2 ≤ L) : SetW n down (L + 100) (bestsP n env down rs) := by
  have hl := h.len
  have hrs : ∀ v, 0 ≤ (rtAt rs v).len ∧ (rtAt rs v).len ≤ L := by
    intro v
    by_cases hv : v.toNat < rs.length
    · exact (h.ok _ hv).len
    · have : rtAt rs v = default := by simp [rtAt, List.getD, List.getElem?_eq_none (by omega : rs.length ≤ v.toNat)]
      rw [this]; show (0 : Int) ≤ 0 ∧ (0 : Int) ≤ _; omega
  refine ⟨by simp [bestsP], fun i hi => ?_⟩
  have hi2 : i < n.routers.length := by simpa [bestsP] using hi
  have he : (bestsP n env down rs).getD i default = bestP (candP n i env down rs) := by simp [bestsP, List.getD, hi2]
  rw [he]
  by_cases hc : candP n i env down rs = []
  · rw [hc]; exact noRt_in n down (by omega) i
  · exact (cand_in hn hL hrs (bestP_mem hc)).1
def settleP (n : Net) (env : List Int) (down : List Bool) : Nat → List Rt → List Rt
  | 0, rs => rs
  | m + 1, rs => if bestsP n env down rs = rs then rs else settleP n env down m (bestsP n env down rs)
def settleA (n : Net) (env : List Int) (down : List Bool) (m : Nat) : V :=
  if stableB n env down (settleP n env down m (List.replicate n.routers.length noRt)) then .tup [.isl false 4 (rtsV (settleP n env down m (List.replicate n.routers.length noRt))), .int .i64 0] else .tup [.isl false 4 [], .int .i64 8]
theorem start_w {n : Net} (down : List Bool) : SetW n down 2 (List.replicate n.routers.length noRt) :=
  ⟨by simp, fun i hi => by
    have : (List.replicate n.routers.length noRt).getD i default = noRt := by simp at hi; simp [List.getD, hi]
    rw [this]; exact noRt_in n down (by omega) i⟩
theorem isAround1_ok {x : Int} : Ret Try.prog Γ 170 [.int .i64 x] σ (.bool (!inB x 0 2)) σ := by
  refine ret_of c170_ok rfl ?_
  simp (disch := omega) only [c170, go_sem, ↓if_pos, ne_eq, ↓reduceIte]
  refine SRun.callR (within_ok x 0 2) ⟨[], rfl, rfl⟩ rfl ?_
  simp (disch := omega) only [go_sem, ↓if_pos, ne_eq, ↓reduceIte]
  exact W_retR c170_ok rfl ⟨rfl, rfl⟩
theorem indexFInt_ok {ex : Bool} {xs : List Int} {F : FuncId} {caps : List V} {p : Int → Bool} (hl : xs.length ≤ 1000000000000) (hp : ∀ x ∈ xs, Ret Try.prog Γ F (.int .i64 x :: caps) σ (.bool (p x)) σ) :
    Ret Try.prog Γ 175 [.isl ex 1 (ints xs), .fn F caps] σ (.int .i64 (firstP p xs)) σ := by
  refine ret_of c175_ok rfl ?_
  simp (disch := omega) only [c175, go_sem, ↓if_pos, ne_eq, ↓reduceIte]
  refine W_loopC (α := Nat) (fun i => i ≤ xs.length ∧ ∀ j, j < i → p (xs.getD j default) = false) (fun i => [(0, .isl ex 1 (ints xs)), (1, .fn F caps), (7, .int .i64 xs.length), (8, .int .i64 (i : Nat))]) (fun _ => σ) (fun i => xs.length - i) 0 ⟨by omega, fun j hj => by omega⟩ (by simp (disch := omega) only [subT, Int.natCast_add, Int.cast_ofNat_Int, go_sem, ↓if_pos, ne_eq, ↓reduceIte] <;> (repeat' apply And.intro) <;> first | rfl | (congr 1; omega) | assumption) rfl ?_
  rintro i ⟨hi, hno⟩ ih
  simp (disch := omega) only [go_sem, ↓if_pos, ne_eq, ↓reduceIte]
  first | refine iteW_dec (fun hq => ?_) (fun hq => ?_) | refine iteW_of (fun hq => ?_) (fun hq => ?_)
  · simp (disch := omega) only [go_sem, ↓if_pos, ne_eq, ↓reduceIte]
    refine SRun.callR (hp _ (getD_mem 0 (by omega : i < xs.length))) ⟨caps, rfl, rfl⟩ rfl ?_
    generalize hpb : p (xs.getD i 0) = q
    cases q with
    | true =>
      simp (disch := omega) only [go_sem, ↓if_pos, ne_eq, ↓reduceIte]
      exact W_retR c175_ok rfl ⟨by rw [first_some (by omega) hno hpb]; rfl, rfl⟩
    | false =>
      simp (disch := omega) only [go_sem, ↓if_pos, ne_eq, ↓reduceIte]
      refine ih (i + 1) _ _ ⟨by omega, fun j hj => ?_⟩ (by omega) (by simp (disch := omega) only [subT, Int.natCast_add, Int.cast_ofNat_Int, go_sem, ↓if_pos, ne_eq, ↓reduceIte] <;> (repeat' apply And.intro) <;> first | rfl | (congr 1; omega) | assumption) rfl
      by_cases e : j = i
      · subst e; exact hpb
      · exact hno j (by omega)
  · have hil : i = xs.length := by omega
    rw [hil] at hno
    simp (disch := omega) only [go_sem, ↓if_pos, ne_eq, ↓reduceIte]
    exact W_retR c175_ok rfl ⟨by rw [first_none hno]; rfl, rfl⟩
theorem containsFInt_ok {ex : Bool} {xs : List Int} {F : FuncId} {caps : List V} {p : Int → Bool} (hl : xs.length ≤ 1000000000000) (hp : ∀ x ∈ xs, Ret Try.prog Γ F (.int .i64 x :: caps) σ (.bool (p x)) σ) :
    Ret Try.prog Γ 150 [.isl ex 1 (ints xs), .fn F caps] σ (.bool (xs.any p)) σ := by
  have := first_any (p := p) (xs := xs)
  refine ret_of c150_ok rfl ?_
  simp (disch := omega) only [c150, go_sem, ↓if_pos, ne_eq, ↓reduceIte]
  refine SRun.callR (indexFInt_ok hl hp) ⟨[], rfl, rfl⟩ rfl ?_
  simp (disch := omega) only [this, go_sem, ↓if_pos, ne_eq, ↓reduceIte]
  exact W_retR c150_ok rfl ⟨rfl, rfl⟩
theorem isAround_ok {n : Net} {ex ex2 : Bool} {env : List Int} {down : List Bool} (hn : NetLen n) (he : env.length ≤ 1000000000000) (hd : down.length ≤ 1000000000000) :
    Ret Try.prog Γ 130 [netV n, .isl ex 1 (ints env), .isl ex2 1 (bools down)] σ (.bool (envB n env down)) σ := by
  have l2 := hn.links
  have l6 := hn.externals
  have e1 : (netC n)[1]? = some (.isl false 3 (linksV n.links)) := rfl
  have e3 : (netC n)[3]? = some (.isl false 1 (ints n.externals)) := rfl
  have hB : envB n env down = (decide (env.length = n.externals.length) && decide (down.length = n.links.length) && env.all fun x => inB x 0 2) := rfl
  have hna : (env.all fun x => inB x 0 2) = !env.any fun x => !inB x 0 2 := all_not_any fun x => rfl
  refine ret_of c130_ok rfl ?_
  simp (disch := omega) only [c130, netV, go_sem, ↓if_pos, ne_eq, ↓reduceIte]
  refine SRun.boxR (net_one n) ?_
  intro b3 hb3
  have g3 := upd_same σ b3 (netC n)
  have hσ : ∀ d x, σ d = some x → upd σ b3 (netC n) d = some x := le_upd hb3
  simp (disch := omega) only [go_sem, ↓if_pos, ne_eq, ↓reduceIte]
  generalize upd σ b3 (netC n) = s1 at *
  by_cases c5 : env.length = n.externals.length
  case' neg =>
    have d5 : decide ((env.length : Int) = n.externals.length) = false := decide_eq_false (by omega)
    rw [hB, decide_eq_false c5]
    simp (disch := omega) only [g3, e3, d5, go_sem, ↓if_pos, ne_eq, ↓reduceIte]
    exact W_retC c130_ok rfl (Conv.drop _ hσ) ⟨rfl, rfl⟩
  have d5 : decide ((env.length : Int) = n.externals.length) = true := decide_eq_true (by omega)
  by_cases c6 : down.length = n.links.length
  case' neg =>
    have d6 : decide ((down.length : Int) = n.links.length) = false := decide_eq_false (by omega)
    rw [hB, decide_eq_true c5, decide_eq_false c6]
    simp (disch := omega) only [g3, e3, e1, d5, d6, go_sem, ↓if_pos, ne_eq, ↓reduceIte]
    exact W_retC c130_ok rfl (Conv.drop _ hσ) ⟨rfl, rfl⟩
  have d6 : decide ((down.length : Int) = n.links.length) = true := decide_eq_true (by omega)
  rw [hB, decide_eq_true c5, decide_eq_true c6, hna]
  simp (disch := omega) only [g3, e3, e1, d5, d6, go_sem, ↓if_pos, ne_eq, ↓reduceIte]
  refine SRun.callR (containsFInt_ok (ex := ex) (xs := env) (F := 170) (caps := []) (p := fun x => !inB x 0 2) he fun x _ => isAround1_ok) ⟨[], rfl, rfl⟩ rfl ?_
  simp (disch := omega) only [go_sem, ↓if_pos, ne_eq, ↓reduceIte]
  exact W_retC c130_ok rfl (Conv.drop _ hσ) ⟨rfl, rfl⟩
theorem routesCode_ok {n : Net} {ex ex2 : Bool} {env : List Int} {down : List Bool} (hn : NetLen n) (he : env.length ≤ 1000000000000) (hd : down.length ≤ 1000000000000) :
    Ret Try.prog Γ 65 [netV n, .isl ex 1 (ints env), .isl ex2 1 (bools down), .isl true 0 [], .bool false] σ (.int .i64 (envCode n env down)) σ := by
  have hlen : (netC n).take 6 = netC n := rfl
  have hlen2 : (netC n).length = 6 := rfl
  have hdef : envCode n env down = if 4096 < env.length ∨ 4096 < down.length then 2 else if netB n = false then 1 else if envB n env down then 0 else 5 := rfl
  refine ret_of c65_ok rfl ?_
  simp (disch := omega) only [c65, netV, go_sem, ↓if_pos, ne_eq, ↓reduceIte]
  refine SRun.boxR (net_one n) ?_
  intro b5 hb5
  have g5 := upd_same σ b5 (netC n)
  have hσ : ∀ d x, σ d = some x → upd σ b5 (netC n) d = some x := le_upd hb5
  simp (disch := omega) only [go_sem, ↓if_pos, ne_eq, ↓reduceIte]
  generalize upd σ b5 (netC n) = s1 at *
  by_cases c1 : 4096 < env.length ∨ 4096 < down.length
  · rw [if_pos c1] at hdef
    rw [hdef]
    by_cases c2 : (env.length : Int) > 4096
    · have d2 : decide ((env.length : Int) > 4096) = true := decide_eq_true c2
      simp (disch := omega) only [d2, go_sem, ↓if_pos, ne_eq, ↓reduceIte]
      exact W_retC c65_ok rfl (Conv.drop _ hσ) ⟨rfl, rfl⟩
    · have d2 : decide ((env.length : Int) > 4096) = false := decide_eq_false c2
      have d3 : decide ((down.length : Int) > 4096) = true := decide_eq_true (by omega)
      simp (disch := omega) only [d2, d3, go_sem, ↓if_pos, ne_eq, ↓reduceIte]
      exact W_retC c65_ok rfl (Conv.drop _ hσ) ⟨rfl, rfl⟩
  rw [if_neg c1] at hdef
  have d2 : decide ((env.length : Int) > 4096) = false := decide_eq_false (by omega)
  have d3 : decide ((down.length : Int) > 4096) = false := decide_eq_false (by omega)
  simp (disch := omega) only [d2, d3, g5, hlen, hlen2, List.length_nil, go_sem, ↓if_pos, ne_eq, ↓reduceIte]
  refine SRun.callR (isNet_ok hn) ⟨[], rfl, rfl⟩ rfl ?_
  cases c4 : netB n with
  | false =>
    rw [hdef, if_pos c4]
    simp (disch := omega) only [go_sem, ↓if_pos, ne_eq, ↓reduceIte]
    exact W_retC c65_ok rfl (Conv.drop _ hσ) ⟨rfl, rfl⟩
  | true =>
    rw [if_neg (by rw [c4]; simp)] at hdef
    simp (disch := omega) only [g5, hlen, hlen2, go_sem, ↓if_pos, ne_eq, ↓reduceIte]
    refine SRun.callR (isAround_ok hn he hd) ⟨[], rfl, rfl⟩ rfl ?_
    cases c5 : envB n env down with
    | false =>
      rw [hdef, c5]
      simp (disch := omega) only [go_sem, ↓if_pos, ne_eq, ↓reduceIte]
      exact W_retC c65_ok rfl (Conv.drop _ hσ) ⟨rfl, rfl⟩
    | true =>
      rw [hdef, c5]
      simp (disch := omega) only [go_sem, ↓if_pos, ne_eq, ↓reduceIte]
      exact W_retC c65_ok rfl (Conv.drop _ hσ) ⟨rfl, rfl⟩
end Go.Proofs.Ytabelcohkpmpnaa.Lg
