/- The row of the law FnExactForward, out of its run and its plain law. -/
import Derived.Test.YtabelcohkpmpnaaRows
import Derived.Test.YtabelcohkpmpnaaKzs
import Derived.WalkKit
import Derived.ProofKit
import Derived.OpenShut
import Derived.ShutString
import Derived.ChangeOld
import Derived.Below
import Derived.SizedLaws
import Derived.ChangeShapes
import Derived.RowKit
set_option linter.unusedSimpArgs false
namespace Go.Proofs.Ytabelcohkpmpnaa.fnExactForward
open Go.ChangeShapes Go.WideShapes Go.ChangeAt Go.RowKit
open Go.ChangeMaps (open_string shut_string)
open Go.Proofs.Ytabelcohkpmpnaa.Lg (calls_of fnExactForward_ok)
set_option linter.unusedVariables false
theorem own : ownKnob Try.prog.godebug = none := by kernel_rfl
theorem laidOut : laidOutB Try.prog = true := by kernel_rfl
theorem netT : Lg.NetT Try.prog 58 :=
  ⟨⟨3, 9, 25, 23, 168, 54, 170, 55, 172, 56, _, _, _, _,
    Try.underlying3, by kernel_rfl, Try.underlying9, by kernel_rfl, Try.underlying25, by kernel_rfl, Try.underlying23, by kernel_rfl,
    Try.underlying168, by kernel_rfl, by kernel_rfl, Try.underlying54, by kernel_rfl,
    Try.underlying170, by kernel_rfl, by kernel_rfl, Try.underlying55, by kernel_rfl,
    Try.underlying172, by kernel_rfl, by kernel_rfl, Try.underlying56, by kernel_rfl,
    Try.underlying58, by kernel_rfl, by kernel_rfl⟩⟩
theorem netOK : Lg.tyOK Try.prog 6 58 = true := by kernel_rfl
theorem boolsOK : Lg.tyOK Try.prog 6 32 = true := by kernel_rfl
theorem routesOK : Lg.tyOK Try.prog 6 59 = true := by kernel_rfl
theorem routeR {xs : List Lg.V} (h : Lg.InV Try.prog 122 xs) : ∃ r : Lg.Rt, xs = Lg.rtC r := Lg.in_rt Try.underlying3 (by kernel_rfl) Try.underlying4 (by kernel_rfl) h Try.underlying122 (by kernel_rfl) (by kernel_rfl)
theorem routeC : Try.prog.cellsOf 122 = 4 := by kernel_rfl
set_option maxRecDepth 100000 in
theorem lifted (os : Os) (started : os.Started) (H : Type) (enc : TypeId × Value → H) :
    ReturnsInHanded {} Try.checked os 5 .any (Rows.fnExactForwardSpec.pre6 enc Try.prog Try.f5 Rows.fnExactForwardRow.domain false) (Rows.fnExactForwardSpec.post enc Try.prog Try.f5 false true false false) := by
  refine returnsInHanded_of_change_sized (C := Try.checked) own started (by kernel_rfl) Try.func5
    (ChangeSpec.witness6 (enc := enc) (C := Try.checked) false ⟨#[], #[.agg #[.slice none 0 0, .slice none 0 0, .slice none 0 0, .slice none 0 0, .slice none 0 0, .slice none 0 0], .slice none 0 0, .slice none 0 0, .int .i64 0, .int .i64 0], []⟩ 8 (by kernel_rfl) (by kernel_rfl) (by kernel_rfl) (by kernel_rfl)) ?_
  intro W base args ds gs before hval0 hW hcnd hsz0 _
  have hval : ∀ (j : Nat) t v, Try.f5.params[j]? = some t → args[j]? = some v → Value.okWide Try.prog W .any base t v := hval0
  have hW' := hW
  obtain ⟨p, q, hA0, hV, rfl, hfz, hnd⟩ := hW
  have hA : DataW.TrodAll enc Try.prog W 0 (fun _ => true) true Try.f5.params.toList args.toList ds p := hA0
  rw [Try.params5] at hA hval
  obtain ⟨v0, vs0, d0, ds0, p0, q0, hargs, rfl, rfl, h0, r0⟩ := trodAll_cons hA
  obtain ⟨v1, vs1, d1, ds1, p1, q1, rfl, rfl, rfl, h1, r1⟩ := trodAll_cons r0
  obtain ⟨v2, vs2, d2, ds2, p2, q2, rfl, rfl, rfl, h2, r2⟩ := trodAll_cons r1
  obtain ⟨v3, vs3, d3, ds3, p3, q3, rfl, rfl, rfl, h3, r3⟩ := trodAll_cons r2
  obtain ⟨v4, vs4, d4, ds4, p4, q4, rfl, rfl, rfl, h4, r4⟩ := trodAll_cons r3
  obtain ⟨rfl, rfl, rfl⟩ := trodAll_nil r4
  obtain rfl : args = #[v0, v1, v2, v3, v4] := by cases args; simp_all
  obtain ⟨rfl, rfl⟩ := trodVars_none hV
  have k0 := h0
  have lt0 : ∀ x ∈ p0, x.block < W.heap.size := by obtain ⟨m, hm⟩ := k0; exact DataW.trod_lt m _ _ _ hm
  obtain ⟨xs0, iv0, hr0⟩ := Lg.rep_struct (O := Lg.own (Lg.cup Lg.emp Lg.emp)) Lg.own_emp 6 Try.underlying58 netOK (hval 0 58 v0 rfl rfl) h0
  obtain ⟨n0, rfl, hn0⟩ := Lg.in_net netT iv0
  have k1 := h1
  have lt1 : ∀ x ∈ p1, x.block < W.heap.size := by obtain ⟨m, hm⟩ := k1; exact DataW.trod_lt m _ _ _ hm
  obtain ⟨x1, iv1, hr1⟩ := Lg.rep_slice (O := Lg.own (Lg.cup Lg.emp Lg.emp)) Lg.own_emp 6 Try.underlying32 boolsOK (hval 1 32 v1 rfl rfl) h1
  obtain ⟨zs1, rfl, hz1⟩ := Lg.in_bools Try.underlying4 (by kernel_rfl) Try.underlying32 iv1
  have k2 := h2
  have lt2 : ∀ x ∈ p2, x.block < W.heap.size := by obtain ⟨m, hm⟩ := k2; exact DataW.trod_lt m _ _ _ hm
  obtain ⟨x2, iv2, hr2⟩ := Lg.rep_slice (O := Lg.own (Lg.cup Lg.emp Lg.emp)) Lg.own_emp 6 Try.underlying59 routesOK (hval 2 59 v2 rfl rfl) h2
  obtain ⟨zs2, rfl, hz2⟩ := Lg.in_structs (C := Lg.rtC) iv2 Try.underlying59 Try.underlying122 (fun _ h => routeR h)
  rw [routeC] at hr2
  have k3 := h3
  have lt3 : ∀ x ∈ p3, x.block < W.heap.size := by obtain ⟨m, hm⟩ := k3; exact DataW.trod_lt m _ _ _ hm
  obtain ⟨z3, rfl, _⟩ := open_int Try.underlying3 (hval 3 3 v3 rfl rfl) h3
  have hr3 : Lg.Rep W (Lg.own (Lg.cup Lg.emp Lg.emp)) (.int .i64 z3) (.int .i64 z3) := .int _ _
  have k4 := h4
  have lt4 : ∀ x ∈ p4, x.block < W.heap.size := by obtain ⟨m, hm⟩ := k4; exact DataW.trod_lt m _ _ _ hm
  obtain ⟨z4, rfl, _⟩ := open_int Try.underlying3 (hval 4 3 v4 rfl rfl) h4
  have hr4 : Lg.Rep W (Lg.own (Lg.cup Lg.emp Lg.emp)) (.int .i64 z4) (.int .i64 z4) := .int _ _
  clear hA0 hval0 hsz0
  have hcall := calls_of (args := [Lg.netV n0, .isl false 1 (Lg.bools zs1), .isl false 4 (Lg.rtsV zs2), .int .i64 z3, .int .i64 z4]) (fnExactForward_ok (Γ := Lg.emp) (σ := Lg.emp) hn0 hz1 hz2) (w := W) (cargs := #[v0, v1, v2, .int .i64 z3, .int .i64 z4])
    ⟨rfl, fun i x hx => by
      match i with
      | 0 => simp at hx; subst hx; exact hr0
      | 1 => simp at hx; subst hx; exact hr1
      | 2 => simp at hx; subst hx; exact hr2
      | 3 => simp at hx; subst hx; exact hr3
      | 4 => simp at hx; subst hx; exact hr4
      | i + 5 => simp at hx⟩
  refine hcall.mono fun e W' ⟨⟨v, he, hv⟩, bel⟩ => ?_
  have hv := Lg.rep_bool_inv hv
  subst he hv
  exact ⟨_, rfl, _, _, _, [], _, [], hW', trodAll_mk1 (shut_bool Try.underlying4 _), (trodAll_cons_mk (Below.trod laidOut (by kernel_rfl) (of_decide_eq_true (by kernel_rfl)) k0 bel lt0) (trodAll_cons_mk (Below.trod laidOut (by kernel_rfl) (of_decide_eq_true (by kernel_rfl)) k1 bel lt1) (trodAll_cons_mk (Below.trod laidOut (by kernel_rfl) (of_decide_eq_true (by kernel_rfl)) k2 bel lt2) (trodAll_cons_mk (Below.trod laidOut (by kernel_rfl) (of_decide_eq_true (by kernel_rfl)) k3 bel lt3) (trodAll_cons_mk (Below.trod laidOut (by kernel_rfl) (of_decide_eq_true (by kernel_rfl)) k4 bel lt4) trodAll_mk0))))), rfl, bel.frame _, fun h => by cases h⟩
theorem over : Rows.fnExactForwardRow.holds Try.pinned (OpenSpec.ofChange Rows.fnExactForwardSpec) :=
  OpenClaim.holds_of_wide 5 Try.f5 rfl rfl rfl rfl rfl rfl rfl ⟨rfl, rfl, rfl, rfl, rfl⟩ rfl rfl rfl rfl rfl (by kernel_rfl) Try.func5 (by kernel_rfl)
    (of_decide_eq_true (by kernel_rfl)) (by unfold Func.isWrapper; first | (rw [if_pos (by decide +kernel)]; kernel_rfl) | (rw [if_neg (by decide +kernel)]; exact ⟨rfl, rfl⟩))
    (fun os started H enc _ => lifted os started H enc)
theorem proved : Rows.FnExactForwardSaid := over
#print axioms proved
end Go.Proofs.Ytabelcohkpmpnaa.fnExactForward
namespace Go.Proofs.Ytabelcohkpmpnaa
/-- The row, under a short name, for the claim. -/
theorem fnExactForward_holds : Rows.FnExactForwardSaid := fnExactForward.proved
end Go.Proofs.Ytabelcohkpmpnaa
