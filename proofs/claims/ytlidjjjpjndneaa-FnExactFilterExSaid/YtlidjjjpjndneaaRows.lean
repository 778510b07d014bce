/-
  NARROWER THAN 'FOR EVERY INPUT', by the rows' own cells (each row's printed sentence says how): FnExactProve: loops.
  DERIVED. THE GIVEN ROWS OF THIS SEAT. 8 by the template 'for every input the law returns true; each argument reads behind the call as it read before'; 0 by the template 'total and deterministic' (their statements: YtlidjjjpjndneaaTotals.lean).
  GIVEN WITH THE SEED: the statements are not yours to turn. If you find one false, say at which input.
  Laid BY PROGRAM, IN A SANDBOX (cutbox-rows.mjs): the forced cells as the released guide's own fill.sh prints them over the translation e8b19e8b4eb35dad… (all of the seat's roots in one cut). By AI agents, Wed Nov 11 2026. No macro, syntax, notation, axiom, sorry.
-/
import Derived.Test.YtlidjjjpjndneaaChecked
import GoSem.Claim
import GoSem.ClaimJoined
import GoSem.ClaimMapViews
import Derived.JoinedTies
import Derived.KernelRfl
namespace Go.Proofs.Ytlidjjjpjndneaa
/- THE CELL 'sum', in the pinned program and in every row, IS THE sha256 OF THE DUMP (.gsa) THAT YtlidjjjpjndneaaProg.lean LOADS. Nothing in Lean hashes anything: it is a label: what it is worth is what the hold of that sum in a sandbox is worth. -/
noncomputable def Try.pinned : Pinned := { name := "ytlidjjjpjndneaa", sum := "e8b19e8b4eb35dadf65e726fb8b655473da15b8c1f5f04e86f5bb9a7f404bb98", checked := Try.checked }
namespace Rows
def none {H : Type} : Left H := { results := [], args := [] }

/-- 'laws.FnWords': WHATEVER THE INPUT: true; the input reads as it did. -/
def fnWordsSpec : ChangeSpec := { name := "fnWords", fn := fun _ => fun
  | [d1, d2] => { results := [.lit (.bool true)], args := [d1, d2] }
  | _ => none }
def fnWordsRow : OpenClaim := { program := "ytlidjjjpjndneaa", sum := "e8b19e8b4eb35dadf65e726fb8b655473da15b8c1f5f04e86f5bb9a7f404bb98", func := "loop.example/g00159/laws.FnWords", spec := "fnWords", unfollowed := true, recurses := true, apart := false }
def FnWordsSaid : Prop := fnWordsRow.holds Try.pinned (OpenSpec.ofChange fnWordsSpec)

/-- ITS FALSE NEIGHBOUR: 'it returns false'. Refute it at one input. -/
def fnWordsWrong : ChangeSpec := { name := "fnWords", fn := fun _ => fun
  | [d1, d2] => { results := [.lit (.bool false)], args := [d1, d2] }
  | _ => none }
def FnWordsWrongFalsely : Prop := fnWordsRow.holds Try.pinned (OpenSpec.ofChange fnWordsWrong)

/-- 'laws.FnBuilds': WHATEVER THE INPUT: true; the input reads as it did. -/
def fnBuildsSpec : ChangeSpec := { name := "fnBuilds", fn := fun _ => fun
  | [d1, d2] => { results := [.lit (.bool true)], args := [d1, d2] }
  | _ => none }
def fnBuildsRow : OpenClaim := { program := "ytlidjjjpjndneaa", sum := "e8b19e8b4eb35dadf65e726fb8b655473da15b8c1f5f04e86f5bb9a7f404bb98", func := "loop.example/g00159/laws.FnBuilds", spec := "fnBuilds", unfollowed := true, recurses := true, apart := false }
def FnBuildsSaid : Prop := fnBuildsRow.holds Try.pinned (OpenSpec.ofChange fnBuildsSpec)

/-- ITS FALSE NEIGHBOUR: 'it returns false'. Refute it at one input. -/
def fnBuildsWrong : ChangeSpec := { name := "fnBuilds", fn := fun _ => fun
  | [d1, d2] => { results := [.lit (.bool false)], args := [d1, d2] }
  | _ => none }
def FnBuildsWrongFalsely : Prop := fnBuildsRow.holds Try.pinned (OpenSpec.ofChange fnBuildsWrong)

/-- 'laws.FnTseitin': WHATEVER THE INPUT: true; the input reads as it did. -/
def fnTseitinSpec : ChangeSpec := { name := "fnTseitin", fn := fun _ => fun
  | [d] => { results := [.lit (.bool true)], args := [d] }
  | _ => none }
def fnTseitinRow : OpenClaim := { program := "ytlidjjjpjndneaa", sum := "e8b19e8b4eb35dadf65e726fb8b655473da15b8c1f5f04e86f5bb9a7f404bb98", func := "loop.example/g00159/laws.FnTseitin", spec := "fnTseitin", unfollowed := true, recurses := true, apart := false }
def FnTseitinSaid : Prop := fnTseitinRow.holds Try.pinned (OpenSpec.ofChange fnTseitinSpec)

/-- ITS FALSE NEIGHBOUR: 'it returns false'. Refute it at one input. -/
def fnTseitinWrong : ChangeSpec := { name := "fnTseitin", fn := fun _ => fun
  | [d] => { results := [.lit (.bool false)], args := [d] }
  | _ => none }
def FnTseitinWrongFalsely : Prop := fnTseitinRow.holds Try.pinned (OpenSpec.ofChange fnTseitinWrong)

/-- 'laws.FnExactProve': WHATEVER THE INPUT: true; the input reads as it did. -/
def fnExactProveSpec : ChangeSpec := { name := "fnExactProve", fn := fun _ => fun
  | [d1, d2] => { results := [.lit (.bool true)], args := [d1, d2] }
  | _ => none }
def fnExactProveRow : OpenClaim := { program := "ytlidjjjpjndneaa", sum := "e8b19e8b4eb35dadf65e726fb8b655473da15b8c1f5f04e86f5bb9a7f404bb98", func := "loop.example/g00159/laws.FnExactProve", spec := "fnExactProve", unfollowed := true, recurses := true, loops := true, apart := false }
def FnExactProveSaid : Prop := fnExactProveRow.holds Try.pinned (OpenSpec.ofChange fnExactProveSpec)

/-- ITS FALSE NEIGHBOUR: 'it returns false'. Refute it at one input. -/
def fnExactProveWrong : ChangeSpec := { name := "fnExactProve", fn := fun _ => fun
  | [d1, d2] => { results := [.lit (.bool false)], args := [d1, d2] }
  | _ => none }
def FnExactProveWrongFalsely : Prop := fnExactProveRow.holds Try.pinned (OpenSpec.ofChange fnExactProveWrong)

/-- 'laws.FnFilters': WHATEVER THE INPUT: true; the input reads as it did. -/
def fnFiltersSpec : ChangeSpec := { name := "fnFilters", fn := fun _ => fun
  | [d1, d2] => { results := [.lit (.bool true)], args := [d1, d2] }
  | _ => none }
def fnFiltersRow : OpenClaim := { program := "ytlidjjjpjndneaa", sum := "e8b19e8b4eb35dadf65e726fb8b655473da15b8c1f5f04e86f5bb9a7f404bb98", func := "loop.example/g00159/laws.FnFilters", spec := "fnFilters", unfollowed := true, recurses := true, apart := false }
def FnFiltersSaid : Prop := fnFiltersRow.holds Try.pinned (OpenSpec.ofChange fnFiltersSpec)

/-- ITS FALSE NEIGHBOUR: 'it returns false'. Refute it at one input. -/
def fnFiltersWrong : ChangeSpec := { name := "fnFilters", fn := fun _ => fun
  | [d1, d2] => { results := [.lit (.bool false)], args := [d1, d2] }
  | _ => none }
def FnFiltersWrongFalsely : Prop := fnFiltersRow.holds Try.pinned (OpenSpec.ofChange fnFiltersWrong)

/-- 'laws.FnExactFilterEx': WHATEVER THE INPUT: true; the input reads as it did. -/
def fnExactFilterExSpec : ChangeSpec := { name := "fnExactFilterEx", fn := fun _ => fun
  | [d1, d2, d3] => { results := [.lit (.bool true)], args := [d1, d2, d3] }
  | _ => none }
def fnExactFilterExRow : OpenClaim := { program := "ytlidjjjpjndneaa", sum := "e8b19e8b4eb35dadf65e726fb8b655473da15b8c1f5f04e86f5bb9a7f404bb98", func := "loop.example/g00159/laws.FnExactFilterEx", spec := "fnExactFilterEx", unfollowed := true, recurses := true, apart := false }
def FnExactFilterExSaid : Prop := fnExactFilterExRow.holds Try.pinned (OpenSpec.ofChange fnExactFilterExSpec)

/-- ITS FALSE NEIGHBOUR: 'it returns false'. Refute it at one input. -/
def fnExactFilterExWrong : ChangeSpec := { name := "fnExactFilterEx", fn := fun _ => fun
  | [d1, d2, d3] => { results := [.lit (.bool false)], args := [d1, d2, d3] }
  | _ => none }
def FnExactFilterExWrongFalsely : Prop := fnExactFilterExRow.holds Try.pinned (OpenSpec.ofChange fnExactFilterExWrong)

/-- 'laws.FnExactFilterApart': WHATEVER THE INPUT: true; the input reads as it did. -/
def fnExactFilterApartSpec : ChangeSpec := { name := "fnExactFilterApart", fn := fun _ => fun
  | [d1, d2, d3, d4, d5, d6] => { results := [.lit (.bool true)], args := [d1, d2, d3, d4, d5, d6] }
  | _ => none }
def fnExactFilterApartRow : OpenClaim := { program := "ytlidjjjpjndneaa", sum := "e8b19e8b4eb35dadf65e726fb8b655473da15b8c1f5f04e86f5bb9a7f404bb98", func := "loop.example/g00159/laws.FnExactFilterApart", spec := "fnExactFilterApart", unfollowed := true, recurses := true, apart := false }
def FnExactFilterApartSaid : Prop := fnExactFilterApartRow.holds Try.pinned (OpenSpec.ofChange fnExactFilterApartSpec)

/-- ITS FALSE NEIGHBOUR: 'it returns false'. Refute it at one input. -/
def fnExactFilterApartWrong : ChangeSpec := { name := "fnExactFilterApart", fn := fun _ => fun
  | [d1, d2, d3, d4, d5, d6] => { results := [.lit (.bool false)], args := [d1, d2, d3, d4, d5, d6] }
  | _ => none }
def FnExactFilterApartWrongFalsely : Prop := fnExactFilterApartRow.holds Try.pinned (OpenSpec.ofChange fnExactFilterApartWrong)

/-- 'laws.FnExactPropertyOK': WHATEVER THE INPUT: true; the input reads as it did. -/
def fnExactPropertyOKSpec : ChangeSpec := { name := "fnExactPropertyOK", fn := fun _ => fun
  | [d1, d2] => { results := [.lit (.bool true)], args := [d1, d2] }
  | _ => none }
def fnExactPropertyOKRow : OpenClaim := { program := "ytlidjjjpjndneaa", sum := "e8b19e8b4eb35dadf65e726fb8b655473da15b8c1f5f04e86f5bb9a7f404bb98", func := "loop.example/g00159/laws.FnExactPropertyOK", spec := "fnExactPropertyOK", unfollowed := true, recurses := true, apart := false }
def FnExactPropertyOKSaid : Prop := fnExactPropertyOKRow.holds Try.pinned (OpenSpec.ofChange fnExactPropertyOKSpec)

/-- ITS FALSE NEIGHBOUR: 'it returns false'. Refute it at one input. -/
def fnExactPropertyOKWrong : ChangeSpec := { name := "fnExactPropertyOK", fn := fun _ => fun
  | [d1, d2] => { results := [.lit (.bool false)], args := [d1, d2] }
  | _ => none }
def FnExactPropertyOKWrongFalsely : Prop := fnExactPropertyOKRow.holds Try.pinned (OpenSpec.ofChange fnExactPropertyOKWrong)

/- THE SECOND FORM. 'bulk': how many values and letters a reading holds, each counted each time it is reached (what is shared counts as often as it is met; a slice's spare places count too). A statement '..UptoSaid' is the law's where the arguments, and the package variables that the reading takes, are together of bulk at most 1048576: NARROWER than '..Said'. Prove '..Said' where nothing that the law and all that it calls make is longer than what came in: it says more and counts as full. Else prove '..UptoSaid'. A law counts once. -/
mutual
def uptoBulk {H : Type} : DataW H → Nat
  | .lit (.string bytes) => bytes.length + 1
  | .lit _ => 1
  | .nil => 1
  | .ptr d => uptoBulk d + 1
  | .slice elems spare => uptoBulkAll elems + uptoBulkAll spare + 1
  | .agg parts => uptoBulkAll parts + 1
  | .iface _ d => uptoBulk d + 1
  | .map entries => uptoBulkEntries entries + 1
  | .held _ => 1
def uptoBulkAll {H : Type} : List (DataW H) → Nat
  | [] => 0
  | d :: r => uptoBulk d + uptoBulkAll r
def uptoBulkEntries {H : Type} : List (Lit × DataW H) → Nat
  | [] => 0
  | x :: r => uptoBulkEntry x + uptoBulkEntries r
def uptoBulkEntry {H : Type} : Lit × DataW H → Nat
  | (.string bytes, d) => bytes.length + uptoBulk d + 1
  | (_, d) => uptoBulk d + 1
 end
def uptoSmall : (H : Type) → List (DataW H) → Bool := fun _ ds => decide (uptoBulkAll ds ≤ 1048576)
def OpenSpec.upto (s : _root_.Go.ChangeSpec) : _root_.Go.OpenSpec := { _root_.Go.OpenSpec.ofChange s with cond := some uptoSmall }

/-- 'laws.FnWords', WHERE WHAT IT READS IS OF BULK AT MOST 1048576: true; the input reads as it did. -/
def fnWordsUptoRow : OpenClaim := { program := "ytlidjjjpjndneaa", sum := "e8b19e8b4eb35dadf65e726fb8b655473da15b8c1f5f04e86f5bb9a7f404bb98", func := "loop.example/g00159/laws.FnWords", spec := "fnWords", unfollowed := true, recurses := true, apart := false, narrowed := true }
def FnWordsUptoSaid : Prop := fnWordsUptoRow.holds Try.pinned (OpenSpec.upto fnWordsSpec)

/-- 'laws.FnBuilds', WHERE WHAT IT READS IS OF BULK AT MOST 1048576: true; the input reads as it did. -/
def fnBuildsUptoRow : OpenClaim := { program := "ytlidjjjpjndneaa", sum := "e8b19e8b4eb35dadf65e726fb8b655473da15b8c1f5f04e86f5bb9a7f404bb98", func := "loop.example/g00159/laws.FnBuilds", spec := "fnBuilds", unfollowed := true, recurses := true, apart := false, narrowed := true }
def FnBuildsUptoSaid : Prop := fnBuildsUptoRow.holds Try.pinned (OpenSpec.upto fnBuildsSpec)

/-- 'laws.FnTseitin', WHERE WHAT IT READS IS OF BULK AT MOST 1048576: true; the input reads as it did. -/
def fnTseitinUptoRow : OpenClaim := { program := "ytlidjjjpjndneaa", sum := "e8b19e8b4eb35dadf65e726fb8b655473da15b8c1f5f04e86f5bb9a7f404bb98", func := "loop.example/g00159/laws.FnTseitin", spec := "fnTseitin", unfollowed := true, recurses := true, apart := false, narrowed := true }
def FnTseitinUptoSaid : Prop := fnTseitinUptoRow.holds Try.pinned (OpenSpec.upto fnTseitinSpec)

/-- 'laws.FnExactProve', WHERE WHAT IT READS IS OF BULK AT MOST 1048576: true; the input reads as it did. -/
def fnExactProveUptoRow : OpenClaim := { program := "ytlidjjjpjndneaa", sum := "e8b19e8b4eb35dadf65e726fb8b655473da15b8c1f5f04e86f5bb9a7f404bb98", func := "loop.example/g00159/laws.FnExactProve", spec := "fnExactProve", unfollowed := true, recurses := true, loops := true, apart := false, narrowed := true }
def FnExactProveUptoSaid : Prop := fnExactProveUptoRow.holds Try.pinned (OpenSpec.upto fnExactProveSpec)

/-- 'laws.FnFilters', WHERE WHAT IT READS IS OF BULK AT MOST 1048576: true; the input reads as it did. -/
def fnFiltersUptoRow : OpenClaim := { program := "ytlidjjjpjndneaa", sum := "e8b19e8b4eb35dadf65e726fb8b655473da15b8c1f5f04e86f5bb9a7f404bb98", func := "loop.example/g00159/laws.FnFilters", spec := "fnFilters", unfollowed := true, recurses := true, apart := false, narrowed := true }
def FnFiltersUptoSaid : Prop := fnFiltersUptoRow.holds Try.pinned (OpenSpec.upto fnFiltersSpec)

/-- 'laws.FnExactFilterEx', WHERE WHAT IT READS IS OF BULK AT MOST 1048576: true; the input reads as it did. -/
def fnExactFilterExUptoRow : OpenClaim := { program := "ytlidjjjpjndneaa", sum := "e8b19e8b4eb35dadf65e726fb8b655473da15b8c1f5f04e86f5bb9a7f404bb98", func := "loop.example/g00159/laws.FnExactFilterEx", spec := "fnExactFilterEx", unfollowed := true, recurses := true, apart := false, narrowed := true }
def FnExactFilterExUptoSaid : Prop := fnExactFilterExUptoRow.holds Try.pinned (OpenSpec.upto fnExactFilterExSpec)

/-- 'laws.FnExactFilterApart', WHERE WHAT IT READS IS OF BULK AT MOST 1048576: true; the input reads as it did. -/
def fnExactFilterApartUptoRow : OpenClaim := { program := "ytlidjjjpjndneaa", sum := "e8b19e8b4eb35dadf65e726fb8b655473da15b8c1f5f04e86f5bb9a7f404bb98", func := "loop.example/g00159/laws.FnExactFilterApart", spec := "fnExactFilterApart", unfollowed := true, recurses := true, apart := false, narrowed := true }
def FnExactFilterApartUptoSaid : Prop := fnExactFilterApartUptoRow.holds Try.pinned (OpenSpec.upto fnExactFilterApartSpec)

/-- 'laws.FnExactPropertyOK', WHERE WHAT IT READS IS OF BULK AT MOST 1048576: true; the input reads as it did. -/
def fnExactPropertyOKUptoRow : OpenClaim := { program := "ytlidjjjpjndneaa", sum := "e8b19e8b4eb35dadf65e726fb8b655473da15b8c1f5f04e86f5bb9a7f404bb98", func := "loop.example/g00159/laws.FnExactPropertyOK", spec := "fnExactPropertyOK", unfollowed := true, recurses := true, apart := false, narrowed := true }
def FnExactPropertyOKUptoSaid : Prop := fnExactPropertyOKUptoRow.holds Try.pinned (OpenSpec.upto fnExactPropertyOKSpec)

end Rows
end Go.Proofs.Ytlidjjjpjndneaa
