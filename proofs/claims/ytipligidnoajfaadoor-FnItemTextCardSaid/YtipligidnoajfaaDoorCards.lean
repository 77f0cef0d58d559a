/-
  DERIVED. GIVEN WITH THE SEED: THE CARDS: each row of YtipligidnoajfaaDoorRows.lean that lists a variable, with what it lists TIED to the program's text (the seventh form; the later family's looks); each row that meets fmt, with fmt's text TOLD by the authors' own Lean function (tested against real Go, not proved from fmt's source: count such statements apart). THE CARD IS WHAT COUNTS. Prove the row's statement (the work); the ties are given (YtipligidnoajfaaDoorTie.lean); close each card by the builder's one call (the guide's Derived/Test/ToyasCard.lean, 'card_holds'). Laid BY PROGRAM, IN A SANDBOX (cutbox-door.mjs). By AI agents, Wed Nov 11 2026. No macro, syntax, notation, axiom, sorry.
-/
import Derived.Test.YtipligidnoajfaaDoorRows
import GoSem.ClaimSeven
namespace Go.Proofs.YtipligidnoajfaaDoor
namespace Rows

/-- THE TIED CARD OF 'laws.FnExactItemText'. -/
def fnExactItemTextCard : Claim7 := { stood := { row := fnExactItemTextRow, standIns := [], harness := (true, "f1f36672615fb44bcd4c6c42a93aa4a4b5dcb88c341bc6b10c3fd4b50945cae4"), looks := false }, kinds := [], alts := [], laidByText := true, laidKinds := [.data, .data, .data, .data, .pinned], laidTests := true, laidLooks := .later }
def FnExactItemTextCardSaid : Prop := Claim7.holds Tryd.pinned (.plain (OpenSpec.ofChange fnExactItemTextSpec)) fnExactItemTextCard

/-- THE TIED CARD OF 'laws.FnItemText'. -/
def fnItemTextCard : Claim7 := { stood := { row := fnItemTextRow, standIns := [], harness := (true, "f1f36672615fb44bcd4c6c42a93aa4a4b5dcb88c341bc6b10c3fd4b50945cae4"), looks := false }, kinds := [], alts := [], laidByText := true, laidKinds := [.data, .data, .data, .data, .pinned], laidTests := true, laidLooks := .later }
def FnItemTextCardSaid : Prop := Claim7.holds Tryd.pinned (.plain (OpenSpec.ofChange fnItemTextSpec)) fnItemTextCard

/-- THE SECOND FORM's CARD OF 'laws.FnExactItemText'. -/
def fnExactItemTextUptoCard : Claim7 := { stood := { row := fnExactItemTextUptoRow, standIns := [], harness := (true, "f1f36672615fb44bcd4c6c42a93aa4a4b5dcb88c341bc6b10c3fd4b50945cae4"), looks := false }, kinds := [], alts := [], laidByText := true, laidKinds := [.data, .data, .data, .data, .pinned], laidTests := true, laidLooks := .later }
def FnExactItemTextUptoCardSaid : Prop := Claim7.holds Tryd.pinned (.plain (OpenSpec.upto fnExactItemTextSpec)) fnExactItemTextUptoCard

/-- THE SECOND FORM's CARD OF 'laws.FnItemText'. -/
def fnItemTextUptoCard : Claim7 := { stood := { row := fnItemTextUptoRow, standIns := [], harness := (true, "f1f36672615fb44bcd4c6c42a93aa4a4b5dcb88c341bc6b10c3fd4b50945cae4"), looks := false }, kinds := [], alts := [], laidByText := true, laidKinds := [.data, .data, .data, .data, .pinned], laidTests := true, laidLooks := .later }
def FnItemTextUptoCardSaid : Prop := Claim7.holds Tryd.pinned (.plain (OpenSpec.upto fnItemTextSpec)) fnItemTextUptoCard
end Rows
end Go.Proofs.YtipligidnoajfaaDoor
