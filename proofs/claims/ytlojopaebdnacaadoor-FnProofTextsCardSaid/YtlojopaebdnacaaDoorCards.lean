/-
  DERIVED. GIVEN WITH THE SEED: THE CARDS: each row of YtlojopaebdnacaaDoorRows.lean that lists a variable, with what it lists TIED to the program's text (the seventh form; the later family's looks); each row that meets fmt, with fmt's text TOLD by the authors' own Lean function (tested against real Go, not proved from fmt's source: count such statements apart). THE CARD IS WHAT COUNTS. Prove the row's statement (the work); the ties are given (YtlojopaebdnacaaDoorTie.lean); close each card by the builder's one call (the guide's Derived/Test/ToyasCard.lean, 'card_holds'). Laid BY PROGRAM, IN A SANDBOX (cutbox-door.mjs). By AI agents, Wed Nov 11 2026. No macro, syntax, notation, axiom, sorry.
-/
import Derived.Test.YtlojopaebdnacaaDoorRows
import GoSem.ClaimSeven
namespace Go.Proofs.YtlojopaebdnacaaDoor
namespace Rows

/-- THE TIED CARD OF 'laws.FnDimacs'. -/
def fnDimacsCard : Claim7 := { stood := { row := fnDimacsRow, standIns := [], harness := (true, "1955022cba1a7ac1a57903e1cf648437bec137e697e9b80db4b69db355991690"), looks := true }, kinds := [], alts := [], laidByText := true, laidKinds := [.data, .data, .data, .data, .sentinel, .sentinel, .pinned], laidTests := true, laidLooks := .later }
def FnDimacsCardSaid : Prop := Claim7.holds Tryd.pinned (.plain (OpenSpec.ofChange fnDimacsSpec)) fnDimacsCard

/-- THE TIED CARD OF 'laws.FnExactReadDimacs'. -/
def fnExactReadDimacsCard : Claim7 := { stood := { row := fnExactReadDimacsRow, standIns := [], harness := (true, "1955022cba1a7ac1a57903e1cf648437bec137e697e9b80db4b69db355991690"), looks := true }, kinds := [], alts := [], laidByText := true, laidKinds := [.data, .data, .data, .data, .sentinel, .sentinel, .pinned], laidTests := true, laidLooks := .later }
def FnExactReadDimacsCardSaid : Prop := Claim7.holds Tryd.pinned (.plain (OpenSpec.ofChange fnExactReadDimacsSpec)) fnExactReadDimacsCard

/-- THE TIED CARD OF 'laws.FnProofTexts'. -/
def fnProofTextsCard : Claim7 := { stood := { row := fnProofTextsRow, standIns := [], harness := (true, "1955022cba1a7ac1a57903e1cf648437bec137e697e9b80db4b69db355991690"), looks := true }, kinds := [], alts := [], laidByText := true, laidKinds := [.data, .data, .data, .data, .sentinel, .sentinel, .pinned], laidTests := true, laidLooks := .later }
def FnProofTextsCardSaid : Prop := Claim7.holds Tryd.pinned (.plain (OpenSpec.ofChange fnProofTextsSpec)) fnProofTextsCard

/-- THE TIED CARD OF 'laws.FnExactReadProof'. -/
def fnExactReadProofCard : Claim7 := { stood := { row := fnExactReadProofRow, standIns := [], harness := (true, "1955022cba1a7ac1a57903e1cf648437bec137e697e9b80db4b69db355991690"), looks := true }, kinds := [], alts := [], laidByText := true, laidKinds := [.data, .data, .data, .data, .sentinel, .sentinel, .pinned], laidTests := true, laidLooks := .later }
def FnExactReadProofCardSaid : Prop := Claim7.holds Tryd.pinned (.plain (OpenSpec.ofChange fnExactReadProofSpec)) fnExactReadProofCard

/-- THE SECOND FORM's CARD OF 'laws.FnDimacs'. -/
def fnDimacsUptoCard : Claim7 := { stood := { row := fnDimacsUptoRow, standIns := [], harness := (true, "1955022cba1a7ac1a57903e1cf648437bec137e697e9b80db4b69db355991690"), looks := true }, kinds := [], alts := [], laidByText := true, laidKinds := [.data, .data, .data, .data, .sentinel, .sentinel, .pinned], laidTests := true, laidLooks := .later }
def FnDimacsUptoCardSaid : Prop := Claim7.holds Tryd.pinned (.plain (OpenSpec.upto fnDimacsSpec)) fnDimacsUptoCard

/-- THE SECOND FORM's CARD OF 'laws.FnExactReadDimacs'. -/
def fnExactReadDimacsUptoCard : Claim7 := { stood := { row := fnExactReadDimacsUptoRow, standIns := [], harness := (true, "1955022cba1a7ac1a57903e1cf648437bec137e697e9b80db4b69db355991690"), looks := true }, kinds := [], alts := [], laidByText := true, laidKinds := [.data, .data, .data, .data, .sentinel, .sentinel, .pinned], laidTests := true, laidLooks := .later }
def FnExactReadDimacsUptoCardSaid : Prop := Claim7.holds Tryd.pinned (.plain (OpenSpec.upto fnExactReadDimacsSpec)) fnExactReadDimacsUptoCard

/-- THE SECOND FORM's CARD OF 'laws.FnProofTexts'. -/
def fnProofTextsUptoCard : Claim7 := { stood := { row := fnProofTextsUptoRow, standIns := [], harness := (true, "1955022cba1a7ac1a57903e1cf648437bec137e697e9b80db4b69db355991690"), looks := true }, kinds := [], alts := [], laidByText := true, laidKinds := [.data, .data, .data, .data, .sentinel, .sentinel, .pinned], laidTests := true, laidLooks := .later }
def FnProofTextsUptoCardSaid : Prop := Claim7.holds Tryd.pinned (.plain (OpenSpec.upto fnProofTextsSpec)) fnProofTextsUptoCard

/-- THE SECOND FORM's CARD OF 'laws.FnExactReadProof'. -/
def fnExactReadProofUptoCard : Claim7 := { stood := { row := fnExactReadProofUptoRow, standIns := [], harness := (true, "1955022cba1a7ac1a57903e1cf648437bec137e697e9b80db4b69db355991690"), looks := true }, kinds := [], alts := [], laidByText := true, laidKinds := [.data, .data, .data, .data, .sentinel, .sentinel, .pinned], laidTests := true, laidLooks := .later }
def FnExactReadProofUptoCardSaid : Prop := Claim7.holds Tryd.pinned (.plain (OpenSpec.upto fnExactReadProofSpec)) fnExactReadProofUptoCard
end Rows
end Go.Proofs.YtlojopaebdnacaaDoor
