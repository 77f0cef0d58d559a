/-
  DERIVED. GIVEN WITH THE SEED: THE CARDS: each row of YtpmcjbemicheoaaDoorRows.lean that lists a variable, with what it lists TIED to the program's text (the seventh form; the later family's looks); each row that meets fmt, with fmt's text TOLD by the authors' own Lean function (tested against real Go, not proved from fmt's source: count such statements apart). THE CARD IS WHAT COUNTS. Prove the row's statement (the work); the ties are given (YtpmcjbemicheoaaDoorTie.lean); close each card by the builder's one call (the guide's Derived/Test/ToyasCard.lean, 'card_holds'). Laid BY PROGRAM, IN A SANDBOX (cutbox-door.mjs). By AI agents, Wed Nov 11 2026. No macro, syntax, notation, axiom, sorry.
-/
import Derived.Test.YtpmcjbemicheoaaDoorRows
import GoSem.ClaimSeven
namespace Go.Proofs.YtpmcjbemicheoaaDoor
namespace Rows

/-- THE TIED CARD OF 'laws.FnWithinOn'. -/
def fnWithinOnCard : Claim7 := { stood := { row := fnWithinOnRow, standIns := [], harness := (true, "f11c0b52f3bbdaa615b933266addd46b83239a8b21d831864553120cab4c5d03"), looks := false }, kinds := [], alts := [], laidByText := true, laidKinds := [.data, .pinned], laidTests := true, laidLooks := .later }
def FnWithinOnCardSaid : Prop := Claim7.holds Tryd.pinned (.plain (OpenSpec.ofChange fnWithinOnSpec)) fnWithinOnCard

/-- THE TIED CARD OF 'laws.FnOpsPart'. -/
def fnOpsPartCard : Claim7 := { stood := { row := fnOpsPartRow, standIns := [], harness := (true, "f11c0b52f3bbdaa615b933266addd46b83239a8b21d831864553120cab4c5d03"), looks := false }, kinds := [], alts := [], laidByText := true, laidKinds := [.data, .pinned], laidTests := true, laidLooks := .later }
def FnOpsPartCardSaid : Prop := Claim7.holds Tryd.pinned (.plain (OpenSpec.ofChange fnOpsPartSpec)) fnOpsPartCard

/-- THE TIED CARD OF 'laws.FnExactOpsValid'. -/
def fnExactOpsValidCard : Claim7 := { stood := { row := fnExactOpsValidRow, standIns := [], harness := (true, "f11c0b52f3bbdaa615b933266addd46b83239a8b21d831864553120cab4c5d03"), looks := false }, kinds := [], alts := [], laidByText := true, laidKinds := [.data, .pinned], laidTests := true, laidLooks := .later }
def FnExactOpsValidCardSaid : Prop := Claim7.holds Tryd.pinned (.plain (OpenSpec.ofChange fnExactOpsValidSpec)) fnExactOpsValidCard

/-- THE SECOND FORM's CARD OF 'laws.FnWithinOn'. -/
def fnWithinOnUptoCard : Claim7 := { stood := { row := fnWithinOnUptoRow, standIns := [], harness := (true, "f11c0b52f3bbdaa615b933266addd46b83239a8b21d831864553120cab4c5d03"), looks := false }, kinds := [], alts := [], laidByText := true, laidKinds := [.data, .pinned], laidTests := true, laidLooks := .later }
def FnWithinOnUptoCardSaid : Prop := Claim7.holds Tryd.pinned (.plain (OpenSpec.upto fnWithinOnSpec)) fnWithinOnUptoCard

/-- THE SECOND FORM's CARD OF 'laws.FnOpsPart'. -/
def fnOpsPartUptoCard : Claim7 := { stood := { row := fnOpsPartUptoRow, standIns := [], harness := (true, "f11c0b52f3bbdaa615b933266addd46b83239a8b21d831864553120cab4c5d03"), looks := false }, kinds := [], alts := [], laidByText := true, laidKinds := [.data, .pinned], laidTests := true, laidLooks := .later }
def FnOpsPartUptoCardSaid : Prop := Claim7.holds Tryd.pinned (.plain (OpenSpec.upto fnOpsPartSpec)) fnOpsPartUptoCard

/-- THE SECOND FORM's CARD OF 'laws.FnExactOpsValid'. -/
def fnExactOpsValidUptoCard : Claim7 := { stood := { row := fnExactOpsValidUptoRow, standIns := [], harness := (true, "f11c0b52f3bbdaa615b933266addd46b83239a8b21d831864553120cab4c5d03"), looks := false }, kinds := [], alts := [], laidByText := true, laidKinds := [.data, .pinned], laidTests := true, laidLooks := .later }
def FnExactOpsValidUptoCardSaid : Prop := Claim7.holds Tryd.pinned (.plain (OpenSpec.upto fnExactOpsValidSpec)) fnExactOpsValidUptoCard
end Rows
end Go.Proofs.YtpmcjbemicheoaaDoor
