/- The row of the law FnExactProve, out of its run and its plain law. -/
import Derived.Test.YtdenfjbhkdhlkaaRows
import Derived.Test.YtdenfjbhkdhlkaaIj
import Derived.WalkKit
import Derived.ProofKit
import Derived.OpenShut
import Derived.ShutString
import Derived.ChangeOld
import Derived.Below
import Derived.SizedLaws
import Derived.ChangeShapes
import Derived.RowKit
set_option linter.unusedSimpArgs false
namespace Go.Proofs.Ytdenfjbhkdhlkaa.fnExactProve
open Go.ChangeShapes Go.WideShapes Go.ChangeAt Go.RowKit
open Go.ChangeMaps (open_string shut_string)
open Go.Proofs.Ytdenfjbhkdhlkaa.Lg (calls_of fnExactProve_ok)
set_option linter.unusedVariables false
theorem own : ownKnob Try.prog.godebug = none := by kernel_rfl
theorem laidOut : laidOutB Try.prog = true := by kernel_rfl
theorem exS : ([24, 22, 3].all (Lg.tyIn Try.prog [24, 22, 3])) = true := by kernel_rfl
theorem exR {xs : List Lg.V} (h : Lg.InV Try.prog 24 xs) : ∃ e : Lg.Ex, xs = Lg.exC e ∧ Lg.LenE e := (Lg.in_exs (ts := 22) Try.underlying3 (by kernel_rfl) Try.underlying24 (by kernel_rfl) Try.underlying22 (by kernel_rfl) (by kernel_rfl) _ _ h).1 rfl
set_option maxRecDepth 100000 in
theorem lifted (os : Os) (started : os.Started) (H : Type) (enc : TypeId × Value → H) :
    ReturnsInHanded {} Try.checked os 3 .any (Rows.fnExactProveSpec.pre6 enc Try.prog Try.f3 Rows.fnExactProveRow.domain false) (Rows.fnExactProveSpec.post enc Try.prog Try.f3 false true false false) := by
  refine returnsInHanded_of_change_sized (C := Try.checked) own started (by kernel_rfl) Try.func3
    (ChangeSpec.witness6 (enc := enc) (C := Try.checked) false ⟨#[], #[.int .i64 0, .agg #[.int .i64 0, .int .i64 0, .slice none 0 0]], []⟩ 8 (by kernel_rfl) (by kernel_rfl) (by kernel_rfl) (by kernel_rfl)) ?_
  intro W base args ds gs before hval0 hW hcnd hsz0 _
  have hval : ∀ (j : Nat) t v, Try.f3.params[j]? = some t → args[j]? = some v → Value.okWide Try.prog W .any base t v := hval0
  have hW' := hW
  obtain ⟨p, q, hA0, hV, rfl, hfz, hnd⟩ := hW
  have hA : DataW.TrodAll enc Try.prog W 0 (fun _ => true) true Try.f3.params.toList args.toList ds p := hA0
  rw [Try.params3] at hA hval
  obtain ⟨v0, vs0, d0, ds0, p0, q0, hargs, rfl, rfl, h0, r0⟩ := trodAll_cons hA
  obtain ⟨v1, vs1, d1, ds1, p1, q1, rfl, rfl, rfl, h1, r1⟩ := trodAll_cons r0
  obtain ⟨rfl, rfl, rfl⟩ := trodAll_nil r1
  obtain rfl : args = #[v0, v1] := by cases args; simp_all
  obtain ⟨rfl, rfl⟩ := trodVars_none hV
  have k0 := h0
  have lt0 : ∀ x ∈ p0, x.block < W.heap.size := by obtain ⟨m, hm⟩ := k0; exact DataW.trod_lt m _ _ _ hm
  obtain ⟨z0, rfl, _⟩ := open_int Try.underlying3 (hval 0 3 v0 rfl rfl) h0
  have hr0 : Lg.Rep W (Lg.own (Lg.cup Lg.emp Lg.emp)) (.int .i64 z0) (.int .i64 z0) := .int _ _
  have k1 := h1
  have lt1 : ∀ x ∈ p1, x.block < W.heap.size := by obtain ⟨m, hm⟩ := k1; exact DataW.trod_lt m _ _ _ hm
  obtain ⟨xs1, iv1, hr1⟩ := Lg.rep_structS (O := Lg.own (Lg.cup Lg.emp Lg.emp)) Lg.own_emp _ exS (by decide) Try.underlying24 (hval 1 24 v1 rfl rfl) h1
  obtain ⟨e1, rfl, he1⟩ := exR iv1
  rw [Lg.agg_exC] at hr1
  clear hA0 hval0 hsz0
  have hcall := calls_of (args := [.int .i64 z0, Lg.exV e1]) (fnExactProve_ok (Γ := Lg.emp) (σ := Lg.emp) he1) (w := W) (cargs := #[.int .i64 z0, v1])
    ⟨rfl, fun i x hx => by
      match i with
      | 0 => simp at hx; subst hx; exact hr0
      | 1 => simp at hx; subst hx; exact hr1
      | i + 2 => simp at hx⟩
  refine hcall.mono fun e W' ⟨⟨v, he, hv⟩, bel⟩ => ?_
  have hv := Lg.rep_bool_inv hv
  subst he hv
  exact ⟨_, rfl, _, _, _, [], _, [], hW', trodAll_mk1 (shut_bool Try.underlying4 _), (trodAll_cons_mk (Below.trod laidOut (by kernel_rfl) (of_decide_eq_true (by kernel_rfl)) k0 bel lt0) (trodAll_cons_mk (Below.trod laidOut (by kernel_rfl) (of_decide_eq_true (by kernel_rfl)) k1 bel lt1) trodAll_mk0)), rfl, bel.frame _, fun h => by cases h⟩
theorem over : Rows.fnExactProveRow.holds Try.pinned (OpenSpec.ofChange Rows.fnExactProveSpec) :=
  OpenClaim.holds_of_wide 3 Try.f3 rfl rfl rfl rfl rfl rfl rfl ⟨rfl, rfl, rfl, rfl, rfl⟩ rfl rfl rfl rfl rfl (by kernel_rfl) Try.func3 (by kernel_rfl)
    (of_decide_eq_true (by kernel_rfl)) (by unfold Func.isWrapper; first | (rw [if_pos (by decide +kernel)]; kernel_rfl) | (rw [if_neg (by decide +kernel)]; exact ⟨rfl, rfl⟩))
    (fun os started H enc _ => lifted os started H enc)
theorem proved : Rows.FnExactProveSaid := over
#print axioms proved
end Go.Proofs.Ytdenfjbhkdhlkaa.fnExactProve
namespace Go.Proofs.Ytdenfjbhkdhlkaa
/-- The row, under a short name, for the claim. -/
theorem fnExactProve_holds : Rows.FnExactProveSaid := fnExactProve.proved
end Go.Proofs.Ytdenfjbhkdhlkaa
