/- The row and the card of the law FnExactReadAsk, out of its run and its plain law. -/
import Derived.Test.YtjibkkhgejcjeaaGreatDoorCards
import Derived.Test.YtjibkkhgejcjeaaGreatDoorTie
import Derived.Test.YtjibkkhgejcjeaaGreatDoorYi
import Derived.Test.YtjibkkhgejcjeaaGreatDoorKrs
import Derived.Test.YtjibkkhgejcjeaaGreatDoorRz
import Derived.OpenVars
import Derived.ChangeVars
import Derived.WalkKit
import Derived.ProofKit
import Derived.OpenShut
import Derived.ShutString
import Derived.ChangeOld
import Derived.Below
import Derived.SizedLaws
import Derived.Deep.DeepHandedRow
import Derived.Lay
import Derived.SevenTiedAt
set_option linter.unusedSimpArgs false
namespace Go.Proofs.YtjibkkhgejcjeaaGreatDoor.fnExactReadAsk
open Go.ChangeShapes Go.WideShapes Go.ChangeAt Go.RowKit
open Go.ChangeMaps (open_string shut_string)
open Go.Proofs.YtjibkkhgejcjeaaGreatDoor.Lg (calls_laid fnExactReadAsk_ok)
set_option linter.unusedVariables false
theorem own : ownKnob Tryz.prog.godebug = none := by kernel_rfl
theorem laidOut : laidOutB Tryz.prog = true := by kernel_rfl
theorem netT : Lg.NetT Tryz.prog 28 :=
  ⟨⟨3, 9, 24, 22, 100, 23, 102, 25, 104, 26, _, _, _, _,
    Tryz.underlying3, by kernel_rfl, Tryz.underlying9, by kernel_rfl, Tryz.underlying24, by kernel_rfl, Tryz.underlying22, by kernel_rfl,
    Tryz.underlying100, by kernel_rfl, by kernel_rfl, Tryz.underlying23, by kernel_rfl,
    Tryz.underlying102, by kernel_rfl, by kernel_rfl, Tryz.underlying25, by kernel_rfl,
    Tryz.underlying104, by kernel_rfl, by kernel_rfl, Tryz.underlying26, by kernel_rfl,
    Tryz.underlying28, by kernel_rfl, by kernel_rfl⟩⟩
theorem netOK : Lg.tyOK Tryz.prog 6 28 = true := by kernel_rfl
/-- A world for the witness: the listed variables hold what the list says. -/
noncomputable abbrev wit (os : Os) : World := World.laidAll Tryz.prog os Rows.fnExactReadAskRow.laid
theorem laid_met (os : Os) (args : Array Value) : laidMetH Tryz.prog Rows.fnExactReadAskRow.laid ((wit os).forCall (fun _ _ => 0) ⟨#[], args, []⟩).memory := by
  rw [MakeChecks.laidMetH_plain _ _ _ (by kernel_rfl)]
  exact laidMet_laidAll _ (by kernel_rfl) (by kernel_rfl)
theorem reads (os : Os) {H : Type} (enc : TypeId × Value → H) : ∃ x, DataW.whole enc Tryz.prog ((wit os).forCall (fun _ _ => 0) ⟨#[], #[.agg #[.slice none 0 0, .slice none 0 0, .slice none 0 0, .slice none 0 0, .slice none 0 0, .slice none 0 0], .string ⟨#[]⟩], []⟩).memory Tryz.f3.params.toList Rows.fnExactReadAskSpec.vars false (#[.agg #[.slice none 0 0, .slice none 0 0, .slice none 0 0, .slice none 0 0, .slice none 0 0, .slice none 0 0], .string ⟨#[]⟩] : Array Value).toList 8 = some ([.agg [.nil, .nil, .nil, .nil, .nil, .nil], .lit (.string [])], [Rows.laid_loop_example_g00159_impl_askKinds], x) :=
  ⟨[.cell 0 0, .cell 0 1, .cell 0 2, .cell 0 3, .cell 0 4], by kernel_rfl⟩
set_option maxRecDepth 100000 in
theorem lifted (os : Os) (started : os.Started) (H : Type) (enc : TypeId × Value → H) (F : Stop.Interp) :
    ReturnsInHanded {} Tryz.checked os 3 .any ((OpenSpec.ofChange Rows.fnExactReadAskSpec).preRow enc Tryz.prog Tryz.f3 Rows.fnExactReadAskRow.domain false Rows.fnExactReadAskRow.laid) (((OpenSpec.ofChange Rows.fnExactReadAskSpec).at F).post enc Tryz.prog Tryz.f3 false true false false) := by
  obtain ⟨places, hx⟩ := reads os enc
  refine returnsInHanded_of_row (C := Tryz.checked) (s := OpenSpec.ofChange Rows.fnExactReadAskSpec) own started (by kernel_rfl) Tryz.func3
    ⟨wit os, fun _ _ => 0, ⟨#[], #[.agg #[.slice none 0 0, .slice none 0 0, .slice none 0 0, .slice none 0 0, .slice none 0 0, .slice none 0 0], .string ⟨#[]⟩], []⟩, World.laidAll_os _ _ _, World.shaped_of_ZipB (by kernel_rfl) (by kernel_rfl), rfl, (Input.okWide_of_okWideB (by kernel_rfl)).2,
      OpenSpec.preRow_of_cond 8 hx (by kernel_rfl) (fun k hk => by cases hk) (by kernel_rfl) (laid_met os _), by simp [Assume.holds]⟩ ?_
  intro W base args ds gs before hval0 hW hcnd _ hsz0 hL hsh _
  have hsz : (DataW.weightsEach Tryz.prog (Tryz.f3.params.toList ++ Rows.fnExactReadAskSpec.plain.varTypes Tryz.prog) (ds ++ gs)).all (· ≤ reachBytes) = true := hsz0
  have hval : ∀ (j : Nat) t v, Tryz.f3.params[j]? = some t → args[j]? = some v → Value.okWide Tryz.prog W .any base t v := hval0
  have hW' := hW
  obtain ⟨p, q, hA0, hV, rfl, hfz, hnd⟩ := hW
  have hA : DataW.TrodAll enc Tryz.prog W 0 (fun _ => true) true Tryz.f3.params.toList args.toList ds p := hA0
  rw [Tryz.params3] at hA hval hsz
  obtain ⟨v0, vs0, d0, ds0, p0, q0, hargs, rfl, rfl, h0, r0⟩ := trodAll_cons hA
  obtain ⟨v1, vs1, d1, ds1, p1, q1, rfl, rfl, rfl, h1, r1⟩ := trodAll_cons r0
  obtain ⟨rfl, rfl, rfl⟩ := trodAll_nil r1
  obtain rfl : args = #[v0, v1] := by cases args; simp_all
  have hV1 : DataW.TrodVars enc Tryz.prog W (fun _ => true) Rows.fnExactReadAskSpec.vars gs q := hV
  obtain ⟨g1, t1, cs1, fu1, dv1, pv1, rfl, -⟩ := trodVars_one hV
  have k0 := h0
  have lt0 : ∀ x ∈ p0, x.block < W.heap.size := by obtain ⟨m, hm⟩ := k0; exact DataW.trod_lt m _ _ _ hm
  obtain ⟨xs0, iv0, hr0⟩ := Lg.rep_struct (O := Lg.own (Lg.cup Lg.emp Lg.emp)) Lg.own_emp0 6 Tryz.underlying28 netOK (hval 0 28 v0 rfl rfl) h0
  obtain ⟨n0, rfl, hn0⟩ := Lg.in_net netT iv0
  obtain ⟨s1, rfl, rfl, rfl, y1⟩ := open_string Tryz.underlying9 (hval 1 9 v1 rfl rfl) h1
  have z1 := sized_string hsz (j := 1) (t := 9) rfl rfl
  clear hA0 hval0 hsz0 hsz
  have hr1 : Lg.Rep W (Lg.own (Lg.cup Lg.emp Lg.emp)) (.str s1.data.toList) (.string s1) := .str s1.data.toList
  have l1 : s1.data.toList.length ≤ 140737488351232 := z1
  have hcall := calls_laid (args := [Lg.netV n0, .str s1.data.toList]) (fun Γ hg hk => fnExactReadAsk_ok (Γ := Γ) (σ := Lg.emp) hg hk hn0 (t := s1.data.toList) (by omega)) (w := W) hL hsh (cargs := #[v0, .string s1])
    ⟨rfl, fun i x hx => by
      match i with
      | 0 => simp at hx; subst hx; exact hr0
      | 1 => simp at hx; subst hx; exact hr1
      | i + 2 => simp at hx⟩
  refine hcall.mono fun e W' ⟨⟨v, he, hv⟩, bel⟩ => ?_
  have hv := Lg.rep_bool_inv hv
  subst he hv
  exact ⟨_, rfl, _, _, _, [], _, _, hW', trodAll_mk1 (shut_bool Tryz.underlying4 _), (trodAll_cons_mk (Below.trod laidOut (by kernel_rfl) (of_decide_eq_true (by kernel_rfl)) k0 bel lt0) (trodAll_cons_mk (shut_string Tryz.underlying9 y1) trodAll_mk0)), Below.trodVars laidOut bel (by kernel_rfl) hV1, bel.frame _, fun h => by cases h⟩
theorem said : Rows.FnExactReadAskSaid :=
  OpenClaim.holds_of_cond 3 Tryz.f3 rfl rfl rfl rfl rfl rfl rfl ⟨rfl, rfl, rfl, rfl, rfl⟩ rfl rfl rfl rfl rfl (by kernel_rfl) Tryz.func3 (by kernel_rfl)
    (of_decide_eq_true (by kernel_rfl)) (by unfold Func.isWrapper; first | (rw [if_pos (by decide +kernel)]; kernel_rfl) | (rw [if_neg (by decide +kernel)]; exact ⟨rfl, rfl⟩))
    (fun os started H enc _ F => by rw [OpenClaim.pre_eq_preRow]; exact lifted os started H enc F)
theorem plain (f : FuncId) (fn : Func) (hf : Tryz.pinned.checked.prog.funcNamed "loop.example/g00159/laws.FnExactReadAsk" = some f) (hfn : Tryz.pinned.checked.prog.funcs[f]? = some fn) :
    true = Tryz.pinned.checked.prog.looks [] ∧ ∀ (j : Nat) t, fn.params[j]? = some t → Tryz.pinned.checked.prog.wantsStandIn t = false := by
  obtain rfl : f = 3 := Option.some.inj ((show Tryz.prog.funcNamed "loop.example/g00159/laws.FnExactReadAsk" = some 3 by kernel_rfl).symm.trans hf) |>.symm
  obtain rfl : fn = Tryz.f3 := (Option.some.inj (Tryz.func3.symm.trans hfn)).symm
  refine ⟨by kernel_rfl, fun j t ht => ?_⟩
  rw [Tryz.params3] at ht
  have hm : t ∈ [28, 9] := by simpa using Array.mem_of_getElem? ht
  have hall : ([28, 9].all fun u => !Tryz.prog.wantsStandIn u) = true := by kernel_rfl
  exact (show Tryz.prog.wantsStandIn t = false by simpa using List.all_eq_true.1 hall t hm)
theorem card : Rows.FnExactReadAskCardSaid :=
  Claim7.holds_tied_plain_at .later [] _ _ _ _ said (fun _ h => by cases h) (by kernel_rfl) (fun _ h => by cases h) fnExactReadAsk_row_tie rfl ⟨rfl, rfl⟩ (by kernel_rfl) rfl plain (by kernel_rfl)
#print axioms card
end Go.Proofs.YtjibkkhgejcjeaaGreatDoor.fnExactReadAsk
namespace Go.Proofs.YtjibkkhgejcjeaaGreatDoor
/-- The card, under a short name, for the claim. -/
theorem fnExactReadAsk_holds : Rows.FnExactReadAskCardSaid := fnExactReadAsk.card
end Go.Proofs.YtjibkkhgejcjeaaGreatDoor
