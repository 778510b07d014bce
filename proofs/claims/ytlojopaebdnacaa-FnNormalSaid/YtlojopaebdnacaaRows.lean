/-
  No cell of these rows narrows 'for every input' (looked for: loops, veiled, ifaces, maps, wideKeys, modest, calm, conditions, laid).
  DERIVED. THE GIVEN ROWS OF THIS SEAT. 7 by the template 'for every input the law returns true; each argument reads behind the call as it read before'; 0 by the template 'total and deterministic' (their statements: YtlojopaebdnacaaTotals.lean).
  GIVEN WITH THE SEED: the statements are not yours to turn. If you find one false, say at which input.
  Laid BY PROGRAM, IN A SANDBOX (cutbox-rows.mjs): the forced cells as the released guide's own fill.sh prints them over the translation c731b5563b0e4d6e… (all of the seat's roots in one cut). By AI agents, Wed Nov 11 2026. No macro, syntax, notation, axiom, sorry.
-/
import Derived.Test.YtlojopaebdnacaaChecked
import GoSem.Claim
import GoSem.ClaimJoined
import GoSem.ClaimMapViews
import Derived.JoinedTies
import Derived.KernelRfl
namespace Go.Proofs.Ytlojopaebdnacaa
/- THE CELL 'sum', in the pinned program and in every row, IS THE sha256 OF THE DUMP (.gsa) THAT YtlojopaebdnacaaProg.lean LOADS. Nothing in Lean hashes anything: it is a label: what it is worth is what the hold of that sum in a sandbox is worth. -/
noncomputable def Try.pinned : Pinned := { name := "ytlojopaebdnacaa", sum := "c731b5563b0e4d6e8ab869f806145eb7bee544822613ea66c71cb33e5be7d42d", checked := Try.checked }
namespace Rows
def none {H : Type} : Left H := { results := [], args := [] }

/-- 'laws.FnImplied': WHATEVER THE INPUT: true; the input reads as it did. -/
def fnImpliedSpec : ChangeSpec := { name := "fnImplied", fn := fun _ => fun
  | [d1, d2] => { results := [.lit (.bool true)], args := [d1, d2] }
  | _ => none }
def fnImpliedRow : OpenClaim := { program := "ytlojopaebdnacaa", sum := "c731b5563b0e4d6e8ab869f806145eb7bee544822613ea66c71cb33e5be7d42d", func := "loop.example/g00159/laws.FnImplied", spec := "fnImplied", unfollowed := true, recurses := true, apart := false }
def FnImpliedSaid : Prop := fnImpliedRow.holds Try.pinned (OpenSpec.ofChange fnImpliedSpec)

/-- ITS FALSE NEIGHBOUR: 'it returns false'. Refute it at one input. -/
def fnImpliedWrong : ChangeSpec := { name := "fnImplied", fn := fun _ => fun
  | [d1, d2] => { results := [.lit (.bool false)], args := [d1, d2] }
  | _ => none }
def FnImpliedWrongFalsely : Prop := fnImpliedRow.holds Try.pinned (OpenSpec.ofChange fnImpliedWrong)

/-- 'laws.FnModels': WHATEVER THE INPUT: true; the input reads as it did. -/
def fnModelsSpec : ChangeSpec := { name := "fnModels", fn := fun _ => fun
  | [d] => { results := [.lit (.bool true)], args := [d] }
  | _ => none }
def fnModelsRow : OpenClaim := { program := "ytlojopaebdnacaa", sum := "c731b5563b0e4d6e8ab869f806145eb7bee544822613ea66c71cb33e5be7d42d", func := "loop.example/g00159/laws.FnModels", spec := "fnModels", unfollowed := true, recurses := true, apart := false }
def FnModelsSaid : Prop := fnModelsRow.holds Try.pinned (OpenSpec.ofChange fnModelsSpec)

/-- ITS FALSE NEIGHBOUR: 'it returns false'. Refute it at one input. -/
def fnModelsWrong : ChangeSpec := { name := "fnModels", fn := fun _ => fun
  | [d] => { results := [.lit (.bool false)], args := [d] }
  | _ => none }
def FnModelsWrongFalsely : Prop := fnModelsRow.holds Try.pinned (OpenSpec.ofChange fnModelsWrong)

/-- 'laws.FnPropagates': WHATEVER THE INPUT: true; the input reads as it did. -/
def fnPropagatesSpec : ChangeSpec := { name := "fnPropagates", fn := fun _ => fun
  | [d1, d2] => { results := [.lit (.bool true)], args := [d1, d2] }
  | _ => none }
def fnPropagatesRow : OpenClaim := { program := "ytlojopaebdnacaa", sum := "c731b5563b0e4d6e8ab869f806145eb7bee544822613ea66c71cb33e5be7d42d", func := "loop.example/g00159/laws.FnPropagates", spec := "fnPropagates", unfollowed := true, recurses := true, apart := false }
def FnPropagatesSaid : Prop := fnPropagatesRow.holds Try.pinned (OpenSpec.ofChange fnPropagatesSpec)

/-- ITS FALSE NEIGHBOUR: 'it returns false'. Refute it at one input. -/
def fnPropagatesWrong : ChangeSpec := { name := "fnPropagates", fn := fun _ => fun
  | [d1, d2] => { results := [.lit (.bool false)], args := [d1, d2] }
  | _ => none }
def FnPropagatesWrongFalsely : Prop := fnPropagatesRow.holds Try.pinned (OpenSpec.ofChange fnPropagatesWrong)

/-- 'laws.FnRups': WHATEVER THE INPUT: true; the input reads as it did. -/
def fnRupsSpec : ChangeSpec := { name := "fnRups", fn := fun _ => fun
  | [d1, d2] => { results := [.lit (.bool true)], args := [d1, d2] }
  | _ => none }
def fnRupsRow : OpenClaim := { program := "ytlojopaebdnacaa", sum := "c731b5563b0e4d6e8ab869f806145eb7bee544822613ea66c71cb33e5be7d42d", func := "loop.example/g00159/laws.FnRups", spec := "fnRups", unfollowed := true, recurses := true, apart := false }
def FnRupsSaid : Prop := fnRupsRow.holds Try.pinned (OpenSpec.ofChange fnRupsSpec)

/-- ITS FALSE NEIGHBOUR: 'it returns false'. Refute it at one input. -/
def fnRupsWrong : ChangeSpec := { name := "fnRups", fn := fun _ => fun
  | [d1, d2] => { results := [.lit (.bool false)], args := [d1, d2] }
  | _ => none }
def FnRupsWrongFalsely : Prop := fnRupsRow.holds Try.pinned (OpenSpec.ofChange fnRupsWrong)

/-- 'laws.FnResolves': WHATEVER THE INPUT: true; the input reads as it did. -/
def fnResolvesSpec : ChangeSpec := { name := "fnResolves", fn := fun _ => fun
  | [d1, d2] => { results := [.lit (.bool true)], args := [d1, d2] }
  | _ => none }
def fnResolvesRow : OpenClaim := { program := "ytlojopaebdnacaa", sum := "c731b5563b0e4d6e8ab869f806145eb7bee544822613ea66c71cb33e5be7d42d", func := "loop.example/g00159/laws.FnResolves", spec := "fnResolves", unfollowed := true, recurses := true, apart := false }
def FnResolvesSaid : Prop := fnResolvesRow.holds Try.pinned (OpenSpec.ofChange fnResolvesSpec)

/-- ITS FALSE NEIGHBOUR: 'it returns false'. Refute it at one input. -/
def fnResolvesWrong : ChangeSpec := { name := "fnResolves", fn := fun _ => fun
  | [d1, d2] => { results := [.lit (.bool false)], args := [d1, d2] }
  | _ => none }
def FnResolvesWrongFalsely : Prop := fnResolvesRow.holds Try.pinned (OpenSpec.ofChange fnResolvesWrong)

/-- 'laws.FnNormal': WHATEVER THE INPUT: true; the input reads as it did. -/
def fnNormalSpec : ChangeSpec := { name := "fnNormal", fn := fun _ => fun
  | [d] => { results := [.lit (.bool true)], args := [d] }
  | _ => none }
def fnNormalRow : OpenClaim := { program := "ytlojopaebdnacaa", sum := "c731b5563b0e4d6e8ab869f806145eb7bee544822613ea66c71cb33e5be7d42d", func := "loop.example/g00159/laws.FnNormal", spec := "fnNormal", unfollowed := true, recurses := true, apart := false }
def FnNormalSaid : Prop := fnNormalRow.holds Try.pinned (OpenSpec.ofChange fnNormalSpec)

/-- ITS FALSE NEIGHBOUR: 'it returns false'. Refute it at one input. -/
def fnNormalWrong : ChangeSpec := { name := "fnNormal", fn := fun _ => fun
  | [d] => { results := [.lit (.bool false)], args := [d] }
  | _ => none }
def FnNormalWrongFalsely : Prop := fnNormalRow.holds Try.pinned (OpenSpec.ofChange fnNormalWrong)

/-- 'laws.FnProofs': WHATEVER THE INPUT: true; the input reads as it did. -/
def fnProofsSpec : ChangeSpec := { name := "fnProofs", fn := fun _ => fun
  | [d1, d2] => { results := [.lit (.bool true)], args := [d1, d2] }
  | _ => none }
def fnProofsRow : OpenClaim := { program := "ytlojopaebdnacaa", sum := "c731b5563b0e4d6e8ab869f806145eb7bee544822613ea66c71cb33e5be7d42d", func := "loop.example/g00159/laws.FnProofs", spec := "fnProofs", unfollowed := true, recurses := true, apart := false }
def FnProofsSaid : Prop := fnProofsRow.holds Try.pinned (OpenSpec.ofChange fnProofsSpec)

/-- ITS FALSE NEIGHBOUR: 'it returns false'. Refute it at one input. -/
def fnProofsWrong : ChangeSpec := { name := "fnProofs", fn := fun _ => fun
  | [d1, d2] => { results := [.lit (.bool false)], args := [d1, d2] }
  | _ => none }
def FnProofsWrongFalsely : Prop := fnProofsRow.holds Try.pinned (OpenSpec.ofChange fnProofsWrong)

/- THE SECOND FORM. 'bulk': how many values and letters a reading holds, each counted each time it is reached (what is shared counts as often as it is met; a slice's spare places count too). A statement '..UptoSaid' is the law's where the arguments, and the package variables that the reading takes, are together of bulk at most 1048576: NARROWER than '..Said'. Prove '..Said' where nothing that the law and all that it calls make is longer than what came in: it says more and counts as full. Else prove '..UptoSaid'. A law counts once. -/
mutual
def uptoBulk {H : Type} : DataW H → Nat
  | .lit (.string bytes) => bytes.length + 1
  | .lit _ => 1
  | .nil => 1
  | .ptr d => uptoBulk d + 1
  | .slice elems spare => uptoBulkAll elems + uptoBulkAll spare + 1
  | .agg parts => uptoBulkAll parts + 1
  | .iface _ d => uptoBulk d + 1
  | .map entries => uptoBulkEntries entries + 1
  | .held _ => 1
def uptoBulkAll {H : Type} : List (DataW H) → Nat
  | [] => 0
  | d :: r => uptoBulk d + uptoBulkAll r
def uptoBulkEntries {H : Type} : List (Lit × DataW H) → Nat
  | [] => 0
  | x :: r => uptoBulkEntry x + uptoBulkEntries r
def uptoBulkEntry {H : Type} : Lit × DataW H → Nat
  | (.string bytes, d) => bytes.length + uptoBulk d + 1
  | (_, d) => uptoBulk d + 1
 end
def uptoSmall : (H : Type) → List (DataW H) → Bool := fun _ ds => decide (uptoBulkAll ds ≤ 1048576)
def OpenSpec.upto (s : _root_.Go.ChangeSpec) : _root_.Go.OpenSpec := { _root_.Go.OpenSpec.ofChange s with cond := some uptoSmall }

/-- 'laws.FnImplied', WHERE WHAT IT READS IS OF BULK AT MOST 1048576: true; the input reads as it did. -/
def fnImpliedUptoRow : OpenClaim := { program := "ytlojopaebdnacaa", sum := "c731b5563b0e4d6e8ab869f806145eb7bee544822613ea66c71cb33e5be7d42d", func := "loop.example/g00159/laws.FnImplied", spec := "fnImplied", unfollowed := true, recurses := true, apart := false, narrowed := true }
def FnImpliedUptoSaid : Prop := fnImpliedUptoRow.holds Try.pinned (OpenSpec.upto fnImpliedSpec)

/-- 'laws.FnModels', WHERE WHAT IT READS IS OF BULK AT MOST 1048576: true; the input reads as it did. -/
def fnModelsUptoRow : OpenClaim := { program := "ytlojopaebdnacaa", sum := "c731b5563b0e4d6e8ab869f806145eb7bee544822613ea66c71cb33e5be7d42d", func := "loop.example/g00159/laws.FnModels", spec := "fnModels", unfollowed := true, recurses := true, apart := false, narrowed := true }
def FnModelsUptoSaid : Prop := fnModelsUptoRow.holds Try.pinned (OpenSpec.upto fnModelsSpec)

/-- 'laws.FnPropagates', WHERE WHAT IT READS IS OF BULK AT MOST 1048576: true; the input reads as it did. -/
def fnPropagatesUptoRow : OpenClaim := { program := "ytlojopaebdnacaa", sum := "c731b5563b0e4d6e8ab869f806145eb7bee544822613ea66c71cb33e5be7d42d", func := "loop.example/g00159/laws.FnPropagates", spec := "fnPropagates", unfollowed := true, recurses := true, apart := false, narrowed := true }
def FnPropagatesUptoSaid : Prop := fnPropagatesUptoRow.holds Try.pinned (OpenSpec.upto fnPropagatesSpec)

/-- 'laws.FnRups', WHERE WHAT IT READS IS OF BULK AT MOST 1048576: true; the input reads as it did. -/
def fnRupsUptoRow : OpenClaim := { program := "ytlojopaebdnacaa", sum := "c731b5563b0e4d6e8ab869f806145eb7bee544822613ea66c71cb33e5be7d42d", func := "loop.example/g00159/laws.FnRups", spec := "fnRups", unfollowed := true, recurses := true, apart := false, narrowed := true }
def FnRupsUptoSaid : Prop := fnRupsUptoRow.holds Try.pinned (OpenSpec.upto fnRupsSpec)

/-- 'laws.FnResolves', WHERE WHAT IT READS IS OF BULK AT MOST 1048576: true; the input reads as it did. -/
def fnResolvesUptoRow : OpenClaim := { program := "ytlojopaebdnacaa", sum := "c731b5563b0e4d6e8ab869f806145eb7bee544822613ea66c71cb33e5be7d42d", func := "loop.example/g00159/laws.FnResolves", spec := "fnResolves", unfollowed := true, recurses := true, apart := false, narrowed := true }
def FnResolvesUptoSaid : Prop := fnResolvesUptoRow.holds Try.pinned (OpenSpec.upto fnResolvesSpec)

/-- 'laws.FnNormal', WHERE WHAT IT READS IS OF BULK AT MOST 1048576: true; the input reads as it did. -/
def fnNormalUptoRow : OpenClaim := { program := "ytlojopaebdnacaa", sum := "c731b5563b0e4d6e8ab869f806145eb7bee544822613ea66c71cb33e5be7d42d", func := "loop.example/g00159/laws.FnNormal", spec := "fnNormal", unfollowed := true, recurses := true, apart := false, narrowed := true }
def FnNormalUptoSaid : Prop := fnNormalUptoRow.holds Try.pinned (OpenSpec.upto fnNormalSpec)

/-- 'laws.FnProofs', WHERE WHAT IT READS IS OF BULK AT MOST 1048576: true; the input reads as it did. -/
def fnProofsUptoRow : OpenClaim := { program := "ytlojopaebdnacaa", sum := "c731b5563b0e4d6e8ab869f806145eb7bee544822613ea66c71cb33e5be7d42d", func := "loop.example/g00159/laws.FnProofs", spec := "fnProofs", unfollowed := true, recurses := true, apart := false, narrowed := true }
def FnProofsUptoSaid : Prop := fnProofsUptoRow.holds Try.pinned (OpenSpec.upto fnProofsSpec)

end Rows
end Go.Proofs.Ytlojopaebdnacaa
