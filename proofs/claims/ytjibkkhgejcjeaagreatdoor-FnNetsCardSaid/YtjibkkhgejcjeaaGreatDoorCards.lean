/-
  DERIVED. GIVEN WITH THE SEED: THE CARDS: each row of YtjibkkhgejcjeaaGreatDoorRows.lean that lists a variable, with what it lists TIED to the program's text (the seventh form; the later family's looks); each row that meets fmt, with fmt's text TOLD by the authors' own Lean function (tested against real Go, not proved from fmt's source: count such statements apart). THE CARD IS WHAT COUNTS. Prove the row's statement (the work); the ties are given (YtjibkkhgejcjeaaGreatDoorTie.lean); close each card by the builder's one call (the guide's Derived/Test/ToyasCard.lean, 'card_holds'). Laid BY PROGRAM, IN A SANDBOX (cutbox-door.mjs). By AI agents, Wed Nov 11 2026. No macro, syntax, notation, axiom, sorry.
-/
import Derived.Test.YtjibkkhgejcjeaaGreatDoorRows
import GoSem.ClaimSeven
namespace Go.Proofs.YtjibkkhgejcjeaaGreatDoor
namespace Rows

/-- THE TIED CARD OF 'laws.FnExactReadAsk'. -/
def fnExactReadAskCard : Claim7 := { stood := { row := fnExactReadAskRow, standIns := [], harness := (true, "9bbf157362adaf7416abcde413499c98bfbeaff376aabd96cb17ce42c82d3b7d"), looks := true }, kinds := [], alts := [], laidByText := true, laidKinds := [.data, .data, .data, .sentinel, .sentinel, .widerDeep], laidTests := true, laidLooks := .later }
def FnExactReadAskCardSaid : Prop := Claim7.holds Tryz.pinned (.plain (OpenSpec.ofChange fnExactReadAskSpec)) fnExactReadAskCard

/-- THE TIED CARD OF 'laws.FnAsks'. -/
def fnAsksCard : Claim7 := { stood := { row := fnAsksRow, standIns := [], harness := (true, "9bbf157362adaf7416abcde413499c98bfbeaff376aabd96cb17ce42c82d3b7d"), looks := true }, kinds := [], alts := [], laidByText := true, laidKinds := [.data, .data, .data, .sentinel, .sentinel, .widerDeep], laidTests := true, laidLooks := .later }
def FnAsksCardSaid : Prop := Claim7.holds Tryz.pinned (.plain (OpenSpec.ofChange fnAsksSpec)) fnAsksCard

/-- THE TIED CARD OF 'laws.FnNets'. -/
def fnNetsCard : Claim7 := { stood := { row := fnNetsRow, standIns := [], harness := (true, "9bbf157362adaf7416abcde413499c98bfbeaff376aabd96cb17ce42c82d3b7d"), looks := true }, kinds := [], alts := [], laidByText := true, laidKinds := [.data, .data, .data, .data, .sentinel, .sentinel, .widerDeep, .pinned], laidTests := true, laidLooks := .later }
def FnNetsCardSaid : Prop := Claim7.holds Tryz.pinned (.plain (OpenSpec.ofChange fnNetsSpec)) fnNetsCard

/-- THE SECOND FORM's CARD OF 'laws.FnExactReadAsk'. -/
def fnExactReadAskUptoCard : Claim7 := { stood := { row := fnExactReadAskUptoRow, standIns := [], harness := (true, "9bbf157362adaf7416abcde413499c98bfbeaff376aabd96cb17ce42c82d3b7d"), looks := true }, kinds := [], alts := [], laidByText := true, laidKinds := [.data, .data, .data, .sentinel, .sentinel, .widerDeep], laidTests := true, laidLooks := .later }
def FnExactReadAskUptoCardSaid : Prop := Claim7.holds Tryz.pinned (.plain (OpenSpec.upto fnExactReadAskSpec)) fnExactReadAskUptoCard

/-- THE SECOND FORM's CARD OF 'laws.FnAsks'. -/
def fnAsksUptoCard : Claim7 := { stood := { row := fnAsksUptoRow, standIns := [], harness := (true, "9bbf157362adaf7416abcde413499c98bfbeaff376aabd96cb17ce42c82d3b7d"), looks := true }, kinds := [], alts := [], laidByText := true, laidKinds := [.data, .data, .data, .sentinel, .sentinel, .widerDeep], laidTests := true, laidLooks := .later }
def FnAsksUptoCardSaid : Prop := Claim7.holds Tryz.pinned (.plain (OpenSpec.upto fnAsksSpec)) fnAsksUptoCard

/-- THE SECOND FORM's CARD OF 'laws.FnNets'. -/
def fnNetsUptoCard : Claim7 := { stood := { row := fnNetsUptoRow, standIns := [], harness := (true, "9bbf157362adaf7416abcde413499c98bfbeaff376aabd96cb17ce42c82d3b7d"), looks := true }, kinds := [], alts := [], laidByText := true, laidKinds := [.data, .data, .data, .data, .sentinel, .sentinel, .widerDeep, .pinned], laidTests := true, laidLooks := .later }
def FnNetsUptoCardSaid : Prop := Claim7.holds Tryz.pinned (.plain (OpenSpec.upto fnNetsSpec)) fnNetsUptoCard
end Rows
end Go.Proofs.YtjibkkhgejcjeaaGreatDoor
