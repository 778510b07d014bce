/- The row of the law FnExactFilterEx, out of its run and its plain law. -/
import Derived.Test.YtlidjjjpjndneaaRows
import Derived.Test.YtlidjjjpjndneaaJs
import Derived.WalkKit
import Derived.ProofKit
import Derived.OpenShut
import Derived.ShutString
import Derived.ChangeOld
import Derived.Below
import Derived.SizedLaws
import Derived.ChangeShapes
import Derived.RowKit
set_option linter.unusedSimpArgs false
namespace Go.Proofs.Ytlidjjjpjndneaa.fnExactFilterEx
open Go.ChangeShapes Go.WideShapes Go.ChangeAt Go.RowKit
open Go.ChangeMaps (open_string shut_string)
open Go.Proofs.Ytlidjjjpjndneaa.Lg (calls_of fnExactFilterEx_ok)
set_option linter.unusedVariables false
theorem own : ownKnob Try.prog.godebug = none := by kernel_rfl
theorem laidOut : laidOutB Try.prog = true := by kernel_rfl
theorem netT : Lg.NetT Try.prog 92 :=
  ⟨⟨3, 9, 27, 78, 220, 88, 222, 89, 224, 90, _, _, _, _,
    Try.underlying3, by kernel_rfl, Try.underlying9, by kernel_rfl, Try.underlying27, by kernel_rfl, Try.underlying78, by kernel_rfl,
    Try.underlying220, by kernel_rfl, by kernel_rfl, Try.underlying88, by kernel_rfl,
    Try.underlying222, by kernel_rfl, by kernel_rfl, Try.underlying89, by kernel_rfl,
    Try.underlying224, by kernel_rfl, by kernel_rfl, Try.underlying90, by kernel_rfl,
    Try.underlying92, by kernel_rfl, by kernel_rfl⟩⟩
theorem netOK : Lg.tyOK Try.prog 6 92 = true := by kernel_rfl
set_option maxRecDepth 100000 in
theorem lifted (os : Os) (started : os.Started) (H : Type) (enc : TypeId × Value → H) :
    ReturnsInHanded {} Try.checked os 8 .any (Rows.fnExactFilterExSpec.pre6 enc Try.prog Try.f8 Rows.fnExactFilterExRow.domain false) (Rows.fnExactFilterExSpec.post enc Try.prog Try.f8 false true false false) := by
  refine returnsInHanded_of_change_sized (C := Try.checked) own started (by kernel_rfl) Try.func8
    (ChangeSpec.witness6 (enc := enc) (C := Try.checked) false ⟨#[], #[.agg #[.slice none 0 0, .slice none 0 0, .slice none 0 0, .slice none 0 0, .slice none 0 0, .slice none 0 0], .int .i64 0, .int .i64 0], []⟩ 8 (by kernel_rfl) (by kernel_rfl) (by kernel_rfl) (by kernel_rfl)) ?_
  intro W base args ds gs before hval0 hW hcnd hsz0 _
  have hval : ∀ (j : Nat) t v, Try.f8.params[j]? = some t → args[j]? = some v → Value.okWide Try.prog W .any base t v := hval0
  have hW' := hW
  obtain ⟨p, q, hA0, hV, rfl, hfz, hnd⟩ := hW
  have hA : DataW.TrodAll enc Try.prog W 0 (fun _ => true) true Try.f8.params.toList args.toList ds p := hA0
  rw [Try.params8] at hA hval
  obtain ⟨v0, vs0, d0, ds0, p0, q0, hargs, rfl, rfl, h0, r0⟩ := trodAll_cons hA
  obtain ⟨v1, vs1, d1, ds1, p1, q1, rfl, rfl, rfl, h1, r1⟩ := trodAll_cons r0
  obtain ⟨v2, vs2, d2, ds2, p2, q2, rfl, rfl, rfl, h2, r2⟩ := trodAll_cons r1
  obtain ⟨rfl, rfl, rfl⟩ := trodAll_nil r2
  obtain rfl : args = #[v0, v1, v2] := by cases args; simp_all
  obtain ⟨rfl, rfl⟩ := trodVars_none hV
  have k0 := h0
  have lt0 : ∀ x ∈ p0, x.block < W.heap.size := by obtain ⟨m, hm⟩ := k0; exact DataW.trod_lt m _ _ _ hm
  obtain ⟨xs0, iv0, hr0⟩ := Lg.rep_struct (O := Lg.own (Lg.cup Lg.emp Lg.emp)) Lg.own_emp 6 Try.underlying92 netOK (hval 0 92 v0 rfl rfl) h0
  obtain ⟨n0, rfl, hn0⟩ := Lg.in_net netT iv0
  have k1 := h1
  have lt1 : ∀ x ∈ p1, x.block < W.heap.size := by obtain ⟨m, hm⟩ := k1; exact DataW.trod_lt m _ _ _ hm
  obtain ⟨z1, rfl, _⟩ := open_int Try.underlying3 (hval 1 3 v1 rfl rfl) h1
  have hr1 : Lg.Rep W (Lg.own (Lg.cup Lg.emp Lg.emp)) (.int .i64 z1) (.int .i64 z1) := .int _ _
  have k2 := h2
  have lt2 : ∀ x ∈ p2, x.block < W.heap.size := by obtain ⟨m, hm⟩ := k2; exact DataW.trod_lt m _ _ _ hm
  obtain ⟨z2, rfl, _⟩ := open_int Try.underlying3 (hval 2 3 v2 rfl rfl) h2
  have hr2 : Lg.Rep W (Lg.own (Lg.cup Lg.emp Lg.emp)) (.int .i64 z2) (.int .i64 z2) := .int _ _
  clear hA0 hval0 hsz0
  have hcall := calls_of (args := [Lg.netV n0, .int .i64 z1, .int .i64 z2]) (fnExactFilterEx_ok (Γ := Lg.emp) (σ := Lg.emp) hn0) (w := W) (cargs := #[v0, .int .i64 z1, .int .i64 z2])
    ⟨rfl, fun i x hx => by
      match i with
      | 0 => simp at hx; subst hx; exact hr0
      | 1 => simp at hx; subst hx; exact hr1
      | 2 => simp at hx; subst hx; exact hr2
      | i + 3 => simp at hx⟩
  refine hcall.mono fun e W' ⟨⟨v, he, hv⟩, bel⟩ => ?_
  have hv := Lg.rep_bool_inv hv
  subst he hv
  exact ⟨_, rfl, _, _, _, [], _, [], hW', trodAll_mk1 (shut_bool Try.underlying4 _), (trodAll_cons_mk (Below.trod laidOut (by kernel_rfl) (of_decide_eq_true (by kernel_rfl)) k0 bel lt0) (trodAll_cons_mk (Below.trod laidOut (by kernel_rfl) (of_decide_eq_true (by kernel_rfl)) k1 bel lt1) (trodAll_cons_mk (Below.trod laidOut (by kernel_rfl) (of_decide_eq_true (by kernel_rfl)) k2 bel lt2) trodAll_mk0))), rfl, bel.frame _, fun h => by cases h⟩
theorem over : Rows.fnExactFilterExRow.holds Try.pinned (OpenSpec.ofChange Rows.fnExactFilterExSpec) :=
  OpenClaim.holds_of_wide 8 Try.f8 rfl rfl rfl rfl rfl rfl rfl ⟨rfl, rfl, rfl, rfl, rfl⟩ rfl rfl rfl rfl rfl (by kernel_rfl) Try.func8 (by kernel_rfl)
    (of_decide_eq_true (by kernel_rfl)) (by unfold Func.isWrapper; first | (rw [if_pos (by decide +kernel)]; kernel_rfl) | (rw [if_neg (by decide +kernel)]; exact ⟨rfl, rfl⟩))
    (fun os started H enc _ => lifted os started H enc)
theorem proved : Rows.FnExactFilterExSaid := over
#print axioms proved
end Go.Proofs.Ytlidjjjpjndneaa.fnExactFilterEx
namespace Go.Proofs.Ytlidjjjpjndneaa
/-- The row, under a short name, for the claim. -/
theorem fnExactFilterEx_holds : Rows.FnExactFilterExSaid := fnExactFilterEx.proved
end Go.Proofs.Ytlidjjjpjndneaa
