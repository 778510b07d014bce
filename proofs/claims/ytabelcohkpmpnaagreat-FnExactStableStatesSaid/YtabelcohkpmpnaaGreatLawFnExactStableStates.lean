/- The row of the law FnExactStableStates, out of its run and its plain law. -/
import Derived.Test.YtabelcohkpmpnaaGreatRows
import Derived.Test.YtabelcohkpmpnaaGreatKqs
import Derived.WalkKit
import Derived.ProofKit
import Derived.OpenShut
import Derived.ShutString
import Derived.ChangeOld
import Derived.Below
import Derived.SizedLaws
import Derived.ChangeShapes
import Derived.RowKit
set_option linter.unusedSimpArgs false
namespace Go.Proofs.YtabelcohkpmpnaaGreat.fnExactStableStates
open Go.ChangeShapes Go.WideShapes Go.ChangeAt Go.RowKit
open Go.ChangeMaps (open_string shut_string)
open Go.Proofs.YtabelcohkpmpnaaGreat.Lg (calls_of fnExactStableStates_ok)
set_option linter.unusedVariables false
theorem own : ownKnob Tryz.prog.godebug = none := by kernel_rfl
theorem laidOut : laidOutB Tryz.prog = true := by kernel_rfl
theorem netT : Lg.NetT Tryz.prog 59 :=
  ⟨⟨3, 9, 25, 23, 153, 55, 155, 56, 157, 57, _, _, _, _,
    Tryz.underlying3, by kernel_rfl, Tryz.underlying9, by kernel_rfl, Tryz.underlying25, by kernel_rfl, Tryz.underlying23, by kernel_rfl,
    Tryz.underlying153, by kernel_rfl, by kernel_rfl, Tryz.underlying55, by kernel_rfl,
    Tryz.underlying155, by kernel_rfl, by kernel_rfl, Tryz.underlying56, by kernel_rfl,
    Tryz.underlying157, by kernel_rfl, by kernel_rfl, Tryz.underlying57, by kernel_rfl,
    Tryz.underlying59, by kernel_rfl, by kernel_rfl⟩⟩
theorem netOK : Lg.tyOK Tryz.prog 6 59 = true := by kernel_rfl
theorem boolsOK : Lg.tyOK Tryz.prog 6 35 = true := by kernel_rfl
theorem intsOK : Lg.tyOK Tryz.prog 6 25 = true := by kernel_rfl
set_option maxRecDepth 100000 in
theorem lifted (os : Os) (started : os.Started) (H : Type) (enc : TypeId × Value → H) :
    ReturnsInHanded {} Tryz.checked os 4 .any (Rows.fnExactStableStatesSpec.pre6 enc Tryz.prog Tryz.f4 Rows.fnExactStableStatesRow.domain false) (Rows.fnExactStableStatesSpec.post enc Tryz.prog Tryz.f4 false true false false) := by
  refine returnsInHanded_of_change_sized (C := Tryz.checked) own started (by kernel_rfl) Tryz.func4
    (ChangeSpec.witness6 (enc := enc) (C := Tryz.checked) false ⟨#[], #[.agg #[.slice none 0 0, .slice none 0 0, .slice none 0 0, .slice none 0 0, .slice none 0 0, .slice none 0 0], .slice none 0 0, .slice none 0 0], []⟩ 8 (by kernel_rfl) (by kernel_rfl) (by kernel_rfl) (by kernel_rfl)) ?_
  intro W base args ds gs before hval0 hW hcnd hsz0 _
  have hval : ∀ (j : Nat) t v, Tryz.f4.params[j]? = some t → args[j]? = some v → Value.okWide Tryz.prog W .any base t v := hval0
  have hW' := hW
  obtain ⟨p, q, hA0, hV, rfl, hfz, hnd⟩ := hW
  have hA : DataW.TrodAll enc Tryz.prog W 0 (fun _ => true) true Tryz.f4.params.toList args.toList ds p := hA0
  rw [Tryz.params4] at hA hval
  obtain ⟨v0, vs0, d0, ds0, p0, q0, hargs, rfl, rfl, h0, r0⟩ := trodAll_cons hA
  obtain ⟨v1, vs1, d1, ds1, p1, q1, rfl, rfl, rfl, h1, r1⟩ := trodAll_cons r0
  obtain ⟨v2, vs2, d2, ds2, p2, q2, rfl, rfl, rfl, h2, r2⟩ := trodAll_cons r1
  obtain ⟨rfl, rfl, rfl⟩ := trodAll_nil r2
  obtain rfl : args = #[v0, v1, v2] := by cases args; simp_all
  obtain ⟨rfl, rfl⟩ := trodVars_none hV
  have k0 := h0
  have lt0 : ∀ x ∈ p0, x.block < W.heap.size := by obtain ⟨m, hm⟩ := k0; exact DataW.trod_lt m _ _ _ hm
  obtain ⟨xs0, iv0, hr0⟩ := Lg.rep_struct (O := Lg.own (Lg.cup Lg.emp Lg.emp)) Lg.own_emp 6 Tryz.underlying59 netOK (hval 0 59 v0 rfl rfl) h0
  obtain ⟨n0, rfl, hn0⟩ := Lg.in_net netT iv0
  have k1 := h1
  have lt1 : ∀ x ∈ p1, x.block < W.heap.size := by obtain ⟨m, hm⟩ := k1; exact DataW.trod_lt m _ _ _ hm
  obtain ⟨x1, iv1, hr1⟩ := Lg.rep_slice (O := Lg.own (Lg.cup Lg.emp Lg.emp)) Lg.own_emp 6 Tryz.underlying25 intsOK (hval 1 25 v1 rfl rfl) h1
  obtain ⟨zs1, rfl, hz1⟩ := Lg.in_ints Tryz.underlying3 (by kernel_rfl) Tryz.underlying25 iv1
  have k2 := h2
  have lt2 : ∀ x ∈ p2, x.block < W.heap.size := by obtain ⟨m, hm⟩ := k2; exact DataW.trod_lt m _ _ _ hm
  obtain ⟨x2, iv2, hr2⟩ := Lg.rep_slice (O := Lg.own (Lg.cup Lg.emp Lg.emp)) Lg.own_emp 6 Tryz.underlying35 boolsOK (hval 2 35 v2 rfl rfl) h2
  obtain ⟨zs2, rfl, hz2⟩ := Lg.in_bools Tryz.underlying4 (by kernel_rfl) Tryz.underlying35 iv2
  clear hA0 hval0 hsz0
  have hcall := calls_of (args := [Lg.netV n0, .isl false 1 (Lg.ints zs1), .isl false 1 (Lg.bools zs2)]) (fnExactStableStates_ok (Γ := Lg.emp) (σ := Lg.emp) hn0 hz1 hz2) (w := W) (cargs := #[v0, v1, v2])
    ⟨rfl, fun i x hx => by
      match i with
      | 0 => simp at hx; subst hx; exact hr0
      | 1 => simp at hx; subst hx; exact hr1
      | 2 => simp at hx; subst hx; exact hr2
      | i + 3 => simp at hx⟩
  refine hcall.mono fun e W' ⟨⟨v, he, hv⟩, bel⟩ => ?_
  have hv := Lg.rep_bool_inv hv
  subst he hv
  exact ⟨_, rfl, _, _, _, [], _, [], hW', trodAll_mk1 (shut_bool Tryz.underlying4 _), (trodAll_cons_mk (Below.trod laidOut (by kernel_rfl) (of_decide_eq_true (by kernel_rfl)) k0 bel lt0) (trodAll_cons_mk (Below.trod laidOut (by kernel_rfl) (of_decide_eq_true (by kernel_rfl)) k1 bel lt1) (trodAll_cons_mk (Below.trod laidOut (by kernel_rfl) (of_decide_eq_true (by kernel_rfl)) k2 bel lt2) trodAll_mk0))), rfl, bel.frame _, fun h => by cases h⟩
theorem over : Rows.fnExactStableStatesRow.holds Tryz.pinned (OpenSpec.ofChange Rows.fnExactStableStatesSpec) :=
  OpenClaim.holds_of_wide 4 Tryz.f4 rfl rfl rfl rfl rfl rfl rfl ⟨rfl, rfl, rfl, rfl, rfl⟩ rfl rfl rfl rfl rfl (by kernel_rfl) Tryz.func4 (by kernel_rfl)
    (of_decide_eq_true (by kernel_rfl)) (by unfold Func.isWrapper; first | (rw [if_pos (by decide +kernel)]; kernel_rfl) | (rw [if_neg (by decide +kernel)]; exact ⟨rfl, rfl⟩))
    (fun os started H enc _ => lifted os started H enc)
theorem proved : Rows.FnExactStableStatesSaid := over
#print axioms proved
end Go.Proofs.YtabelcohkpmpnaaGreat.fnExactStableStates
namespace Go.Proofs.YtabelcohkpmpnaaGreat
/-- The row, under a short name, for the claim. -/
theorem fnExactStableStates_holds : Rows.FnExactStableStatesSaid := fnExactStableStates.proved
end Go.Proofs.YtabelcohkpmpnaaGreat
