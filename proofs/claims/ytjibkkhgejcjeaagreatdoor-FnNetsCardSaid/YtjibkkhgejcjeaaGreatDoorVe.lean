/- The words of a network's line, and the lines' parting. -/
import Derived.Test.YtjibkkhgejcjeaaGreatDoorVc
import Derived.Test.YtjibkkhgejcjeaaGreatDoorYc
set_option linter.unusedSimpArgs false
set_option linter.unusedVariables false
namespace Go.Proofs.YtjibkkhgejcjeaaGreatDoor.Lg
open Go Go.Lib
attribute [local irreducible] SRun DS DRun
variable {Γ : St} {σ σ0 : St}
theorem wordsT_ne : ∀ (l cur : List UInt8), ∀ w ∈ wordsT l cur, w ≠ [] := by
  intro l
  induction l with
  | nil =>
    intro cur w hw
    simp only [wordsT] at hw
    split at hw
    · cases hw
    · rename_i h; rw [List.mem_singleton.1 hw]; exact h
  | cons c r ih =>
    intro cur w hw
    simp only [wordsT] at hw
    split at hw
    · rcases List.mem_append.1 hw with h | h
      · split at h
        · cases h
        · rename_i h2; rw [List.mem_singleton.1 h]; exact h2
      · exact ih _ w h
    · exact ih _ w hw
theorem netWords_ok {line : List UInt8} (hl : line.length ≤ 1000000) : Ret Tryz.prog Γ 55 [.str line] σ (.isl false 1 (strsV (netW line))) σ := by
  have hW := fun σ => wordsIn_ok (Γ := Γ) (σ := σ) (line := line) (bs := [32]) (p := 0) (by omega) (by omega)
  rw [blS_index] at hW
  have hWl : (wordsP blS line 0).length ≤ line.length + 1 := wordsGo_len _ _ _
  have hT : (wordsP blS line 0).map (·.1) = wordsT line [] := wordsT_go line 0 []
  have hne := wordsT_ne line []
  unfold netW
  rw [← hT] at hne ⊢
  generalize wordsP blS line 0 = ws at *
  have hwn := wdsV_len ws
  have hlen2 : ∀ x y : V, [x, y].take 2 = [x, y] := fun _ _ => rfl
  refine ret_of c55_ok rfl ?_
  simp (disch := omega) only [c55, go_sem]
  refine SRun.callR (hW _) ⟨[], rfl, rfl⟩ rfl ?_
  simp (disch := omega) only [hwn, go_sem]
  refine W_loopC (α := Nat × V × St) (fun a => a.1 ≤ ws.length ∧ LisAt σ 1 (strsV ((ws.take a.1).map (·.1))) a.2.1 a.2.2) (fun a => [(3, a.2.1), (7, .isl false 2 (wdsV ws)), (8, .int .i64 ws.length), (9, .int .i64 (a.1 : Nat))]) (fun a => a.2.2) (fun a => ws.length - a.1) (0, .isl true 0 [], σ) ⟨by simp, ⟨fun x hx => (by simp [strsV] at hx), .inl ⟨by simp [strsV], 0, rfl⟩⟩, fun b hb => (by cases hb), fun _ _ h => h⟩ (by simp (disch := omega) only [subT, Int.natCast_add, Int.cast_ofNat_Int, go_sem] <;> (repeat' apply And.intro) <;> first | rfl | (congr 1; omega) | assumption) rfl ?_
  rintro ⟨i, q, s⟩ ⟨hi, hL⟩ ih
  dsimp only at hi hL
  simp (disch := omega) only [go_sem]
  first | refine iteW_dec (fun hq => ?_) (fun hq => ?_) | refine iteW_of (fun hq => ?_) (fun hq => ?_)
  · have hi' : i < ws.length := by omega
    have htk : (ws.take (i + 1)).map (·.1) = (ws.take i).map (·.1) ++ [textW ws i] := by
      rw [take_succ ([], 0) hi', List.map_append]; rfl
    simp (disch := omega) only [go_sem]
    refine SRun.allocR ?_
    intro b5 hb5
    have hL := hL.mono (le_upd (cs := [.str (textW ws i), .int .i64 (placeW ws i)]) hb5)
    simp (disch := omega) only [upd_same, upd_upd, hlen2, go_sem]
    generalize upd s b5 [.str (textW ws i), .int .i64 (placeW ws i)] = s2 at *
    refine SRun.appAt (ys := [.str (textW ws i)]) hL.1 (by exact src_isl) rfl (by intro y hy; rw [List.mem_singleton.1 hy]; exact ⟨rfl, by simp [V.cells, V.one]⟩) (by rw [strsV_len, List.length_map, List.length_take]; simp only [List.length_singleton]; omega) ?_
    intro q' s' hA
    rw [strsV_app, ← htk] at hA
    simp (disch := omega) only [go_sem]
    exact ih (i + 1, q', s') _ _ ⟨by simp only; omega, hL.app hA⟩ (by simp only; omega) (by simp (disch := omega) only [subT, Int.natCast_add, Int.cast_ofNat_Int, go_sem] <;> (repeat' apply And.intro) <;> first | rfl | (congr 1; omega) | assumption) rfl
  · obtain rfl : i = ws.length := by omega
    rw [List.take_length] at *
    clear ih
    have hcv := hL.conv
    have hat := hL.1
    generalize ws.map (·.1) = W at *
    have hsl := strsV_len W
    cases W with
    | nil =>
      simp (disch := omega) only [stepW_len_at hat, hsl, List.length_nil, go_sem]
      exact W_retC c55_ok rfl hcv ⟨rfl, rfl⟩
    | cons w r =>
      have hw0 := List.length_pos_iff.2 (hne w (by simp))
      have d0 : decide (((r.length + 1 : Nat) : Int) > 0) = true := decide_eq_true (by omega)
      have d0' : decide ((((w :: r).length : Nat) : Int) > 0) = true := decide_eq_true (by simp only [List.length_cons]; omega)
      have q0 : (strsV (w :: r))[0]? = some (.str w) := rfl
      rcases hat.2 with ⟨hn, _⟩ | ⟨bq, cap, rfl, hbq⟩
      · cases hn
      have hf : flat (strsV (w :: r)) = strsV (w :: r) := flat_one fun x hx => by obtain ⟨y, _, rfl⟩ := List.mem_map.1 hx; rfl
      rw [hf] at hbq
      have hl0 : (strsV (w :: r)).length = r.length + 1 := by rw [strsV_len]; rfl
      rw [hl0] at hcv
      simp only
      by_cases h35 : w.getD 0 0 = 35
      · have d1 : decide (((w.getD 0 0).toNat : Int) = 35) = true := by rw [h35]; rfl
        rw [if_pos h35]
        simp (disch := omega) only [hbq, hl0, d0, d0', q0, d1, go_sem]
        exact W_retC c55_ok rfl ⟨hcv.1, .isl0 _ _ _ _ (fun h => by cases h)⟩ ⟨rfl, rfl⟩
      · have d1 : decide (((w.getD 0 0).toNat : Int) = 35) = false := decide_eq_false (fun h => h35 (UInt8.toNat_inj.1 (by show (w.getD 0 0).toNat = 35; omega)))
        rw [if_neg h35]
        simp (disch := omega) only [hbq, hl0, d0, d0', q0, d1, go_sem]
        exact W_retC c55_ok rfl hcv ⟨rfl, rfl⟩
end Go.Proofs.YtjibkkhgejcjeaaGreatDoor.Lg
/- A number put behind a rising list: slices.BinarySearch, slices.Insert, and a network's lists of routers. -/
set_option linter.unusedSimpArgs false
set_option linter.unusedVariables false
namespace Go.Proofs.YtjibkkhgejcjeaaGreatDoor.Lg
open Go Go.Lib
attribute [local irreducible] SRun DS DRun
variable {Γ : St} {σ σ0 : St}
section
variable {P : Program} {f : FuncId} {n : Nat} {Q : V → St → Prop} {k : List It} {T : Ts} {g : GI} {l : List GI}
theorem stepW_sl_e {es es2 : Nat} {k1 : IntKind} : stepW P Γ f n Q (.sl es (.c (.isl true es2 [])) (some (.c (.int k1 0))) none none) g l k T σ = W P Γ f n Q (.ops l :: k) (putT T g.d (.isl true es2 [])) σ := by
  simp [stepW, insW, pureI, ev, cutV]
end
theorem cmpNaN_ok (a : Int) : Ret Tryz.prog Γ 172 [.int .i64 a] σ (.bool false) σ := by
  have dk : ∀ x : Int, (decide ¬ (x = x)) = false := fun x => by simp
  refine ret_of c172_ok rfl ?_
  simp (disch := omega) only [c172, dk, go_sem]
  exact W_retR c172_ok rfl ⟨rfl, rfl⟩
theorem cmpLess_ok (a c : Int) : Ret Tryz.prog Γ 152 [.int .i64 a, .int .i64 c] σ (.bool (decide (a < c))) σ := by
  refine ret_of c152_ok rfl ?_
  simp (disch := omega) only [c152, go_sem]
  refine SRun.callR (cmpNaN_ok a) ⟨[], rfl, rfl⟩ rfl ?_
  simp (disch := omega) only [go_sem]
  exact W_retR c152_ok rfl ⟨rfl, rfl⟩
theorem search_end {ex : Bool} {xs : List Int} {x : Int} (hx : ∀ y ∈ xs, y < x) (hl : xs.length ≤ 1000) : Ret Tryz.prog Γ 133 [.isl ex 1 (ints xs), .int .i64 x] σ (.tup [.int .i64 xs.length, .bool false]) σ := by
  refine ret_of c133_ok rfl ?_
  simp (disch := omega) only [c133, ints_len, go_sem]
  refine W_loopC (α := Nat) (fun i => i ≤ xs.length) (fun i => [(0, .isl ex 1 (ints xs)), (1, .int .i64 x), (6, .int .i64 xs.length), (7, .int .i64 (i : Nat)), (8, .int .i64 xs.length)]) (fun _ => σ) (fun i => xs.length - i) 0 (by omega) (by simp (disch := omega) only [subT, Int.natCast_add, Int.cast_ofNat_Int, go_sem] <;> (repeat' apply And.intro) <;> first | rfl | (congr 1; omega) | assumption) rfl ?_
  intro i hi ih
  simp (disch := omega) only [go_sem]
  first | refine iteW_dec (fun hq => ?_) (fun hq => ?_) | refine iteW_of (fun hq => ?_) (fun hq => ?_)
  · have hi' : i < xs.length := by omega
    simp (disch := omega) only [go_sem]
    have hm : min 1 64 = 1 := rfl
    have hx2 : ((i : Int) + (xs.length : Int)).fdiv (2 ^ min 1 64) = ((i + xs.length) / 2 : Nat) := by
      rw [hm]
      rw [Int.fdiv_eq_ediv_of_nonneg _ (by decide)]; omega
    rw [hx2]
    obtain ⟨m, hmm⟩ : ∃ m, m = (i + xs.length) / 2 := ⟨_, rfl⟩
    rw [← hmm]
    have hmi : i ≤ m := by omega
    have hmx : m < xs.length := by omega
    have hlt := hx _ (getD_mem 0 hmx)
    have dlt : decide (xs.getD m 0 < x) = true := decide_eq_true hlt
    simp (disch := omega) only [go_sem]
    refine SRun.callR (cmpLess_ok _ _) ⟨[], rfl, rfl⟩ rfl ?_
    simp (disch := omega) only [dlt, go_sem]
    exact ih (m + 1) _ _ (by omega) (by omega) (by simp (disch := omega) only [subT, Int.natCast_add, Int.cast_ofNat_Int, go_sem] <;> (repeat' apply And.intro) <;> first | rfl | (congr 1; omega) | assumption) rfl
  · obtain rfl : i = xs.length := by omega
    have d0 : decide (((xs.length : Nat) : Int) < ((xs.length : Nat) : Int)) = false := decide_eq_false (by omega)
    clear ih
    simp (disch := omega) only [d0, go_sem]
    exact W_retR c133_ok rfl ⟨rfl, rfl⟩
theorem insert_end {xs : List Int} {x : Int} {q : V} (h : At σ 1 (ints xs) q) (hl : xs.length ≤ 1000) : ACalls Tryz.prog Γ 134 [q, .int .i64 xs.length, .isl true 1 [.int .i64 x]] σ fun q' s' => AppAt σ 1 (ints (xs ++ [x])) q q' s' := by
  have hy1 : ∀ y ∈ [V.int .i64 x], y.cells.length = 1 ∧ ∀ c ∈ y.cells, c.one = true := by
    intro y hy; rw [List.mem_singleton.1 hy]; exact ⟨rfl, by simp [V.cells, V.one]⟩
  rcases h.2 with ⟨hx, es', rfl⟩ | ⟨bq, cap, rfl, hbq⟩
  · have hx0 : xs = [] := by cases xs with | nil => rfl | cons a r => cases hx
    subst hx0
    refine acalls_W c134_ok rfl ?_
    simp (disch := omega) only [c134, go_sem]
    rw [stepW_sl_e]
    simp (disch := omega) only [List.length_nil, go_sem]
    refine SRun.appAt (ys := [.int .i64 x]) h (by exact src_isl) rfl hy1 (by simp [ints]) ?_
    intro q' s' hA
    rw [ints_app] at hA
    simp (disch := omega) only [go_sem]
    exact W_retR c134_ok rfl hA
  · rw [ints_len] at *
    have main : xs.length ≤ cap → ACalls Tryz.prog Γ 134 [.msl bq 1 0 xs.length cap, .int .i64 xs.length, .isl true 1 [.int .i64 x]] σ fun q' s' => AppAt σ 1 (ints (xs ++ [x])) (.msl bq 1 0 xs.length cap) q' s' := fun hle => by
      have hle2 : (xs.length : Int) ≤ (cap : Int) := by omega
      refine acalls_W c134_ok rfl ?_
      simp (disch := omega) only [c134, hle2, go_sem]
      refine SRun.appAt (ys := [.int .i64 x]) h (by exact src_isl) rfl hy1 (by rw [ints_len]; simp only [List.length_singleton]; omega) ?_
      intro q' s' hA
      rw [ints_app] at hA
      simp (disch := omega) only [go_sem]
      exact W_retR c134_ok rfl hA
    refine ⟨by kernel_rfl, fun τ w c hd hs hgl hr => ?_⟩
    have hle : xs.length ≤ cap := by
      have h0 := hr.2 0 _ rfl
      generalize c.getD 0 undef = v at h0
      cases h0 with
      | msl _ _ _ _ _ _ _ _ _ _ h3 => exact h3
    exact (main hle).2 τ w c hd hs hgl hr
theorem naddTo_ok {b : Nat} {m : Net} {qs : List V} {w : Wrd} {x most : Int} {i : Nat} {xs : List Int} (h : RdL σ0 b (lsN m) qs σ) (hi : i < 6) (hL : (lsN m).getD i (0, []) = (1, ints xs)) (hw : ofN m w x) (hlt : ∀ y ∈ xs, y < x) (hm : (xs.length : Int) < most) (hmo : most ≤ 100) (hl : m.routers.length ≤ 100) :
    ACalls Tryz.prog Γ 108 [.ptr b 0, .ptr b i, .str w, .int .i64 most] σ fun r s => r = .int .i64 0 ∧ ∃ qs', RdL σ0 b ((lsN m).set i (1, ints (xs ++ [x]))) qs' s := by
  have hb := h.box_
  have hi' : i < (lsN m).length := hi
  have ha := h.at_ i hi'
  rw [hL] at ha
  have hlq : qs.length = 6 := h.len
  have hqi : qs[i]? = some (qs.getD i .undef) := getD_some _ (by omega)
  have hset : ∀ z, sets qs i [z] = qs.set i z := fun z => rfl
  have hle : i + 1 ≤ qs.length := by omega
  have d0 : decide ((xs.length : Int) = most) = false := decide_eq_false (by omega)
  refine acalls_W c108_ok rfl ?_
  simp (disch := omega) only [c108, go_sem]
  refine SRun.callR (nrouter_ok h hw hl) ⟨[], rfl, rfl⟩ rfl ?_
  simp (disch := omega) only [hb, hqi, go_sem]
  refine SRun.callR (Ret.lendL (search_end (Γ := Γ) (σ := emp) (ex := false) hlt (by omega)) (by exact ⟨ha.lend, .refl _, trivial⟩) (Plain.tup (by intro y hy; simp at hy; rcases hy with rfl | rfl <;> first | exact Plain.int _ _ | exact Plain.bool _))) ⟨[], rfl, rfl⟩ rfl ?_
  simp (disch := omega) only [hb, hqi, stepW_len_at ha, ints_len, d0, go_sem]
  refine SRun.callQ (insert_end ha (by omega)) ⟨[], rfl, rfl⟩ rfl ?_
  intro q' s' hA
  obtain ⟨hsb, hR⟩ := h.put (i := i) hi' (by rw [hL]) hA
  have hqc := hA.at_.cells
  have hq1 := one_only hA.at_.one
  simp (disch := omega) only [hsb, hqc, hq1, hset, hle, List.length_singleton, go_sem]
  exact W_retR c108_ok rfl ⟨rfl, _, hR⟩
end Go.Proofs.YtjibkkhgejcjeaaGreatDoor.Lg
