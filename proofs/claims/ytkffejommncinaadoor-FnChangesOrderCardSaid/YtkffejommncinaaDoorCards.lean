/-
  DERIVED. GIVEN WITH THE SEED: THE CARDS: each row of YtkffejommncinaaDoorRows.lean that lists a variable, with what it lists TIED to the program's text (the seventh form; the later family's looks); each row that meets fmt, with fmt's text TOLD by the authors' own Lean function (tested against real Go, not proved from fmt's source: count such statements apart). THE CARD IS WHAT COUNTS. Prove the row's statement (the work); the ties are given (YtkffejommncinaaDoorTie.lean); close each card by the builder's one call (the guide's Derived/Test/ToyasCard.lean, 'card_holds'). Laid BY PROGRAM, IN A SANDBOX (cutbox-door.mjs). By AI agents, Wed Nov 11 2026. No macro, syntax, notation, axiom, sorry.
-/
import Derived.Test.YtkffejommncinaaDoorRows
import GoSem.ClaimSeven
namespace Go.Proofs.YtkffejommncinaaDoor
namespace Rows

/-- THE TIED CARD OF 'laws.FnTreeDropFull'. -/
def fnTreeDropFullCard : Claim7 := { stood := { row := fnTreeDropFullRow, standIns := [], harness := (true, "38ff8bb60a44ee67f331a96f88365655a6d2daf92ebf623c8b3e06d9df1b8326"), looks := true }, kinds := [], alts := [], laidByText := true, laidKinds := [.data, .pinned], laidTests := true, laidLooks := .later }
def FnTreeDropFullCardSaid : Prop := Claim7.holds Tryd.pinned (.plain (OpenSpec.ofChange fnTreeDropFullSpec)) fnTreeDropFullCard

/-- THE TIED CARD OF 'laws.FnTreePutDir'. -/
def fnTreePutDirCard : Claim7 := { stood := { row := fnTreePutDirRow, standIns := [], harness := (true, "38ff8bb60a44ee67f331a96f88365655a6d2daf92ebf623c8b3e06d9df1b8326"), looks := true }, kinds := [], alts := [], laidByText := true, laidKinds := [.data, .pinned], laidTests := true, laidLooks := .later }
def FnTreePutDirCardSaid : Prop := Claim7.holds Tryd.pinned (.plain (OpenSpec.ofChange fnTreePutDirSpec)) fnTreePutDirCard

/-- THE TIED CARD OF 'laws.FnTreeDrop'. -/
def fnTreeDropCard : Claim7 := { stood := { row := fnTreeDropRow, standIns := [], harness := (true, "38ff8bb60a44ee67f331a96f88365655a6d2daf92ebf623c8b3e06d9df1b8326"), looks := true }, kinds := [], alts := [], laidByText := true, laidKinds := [.data, .pinned], laidTests := true, laidLooks := .later }
def FnTreeDropCardSaid : Prop := Claim7.holds Tryd.pinned (.plain (OpenSpec.ofChange fnTreeDropSpec)) fnTreeDropCard

/-- THE TIED CARD OF 'laws.FnTreePut'. -/
def fnTreePutCard : Claim7 := { stood := { row := fnTreePutRow, standIns := [], harness := (true, "38ff8bb60a44ee67f331a96f88365655a6d2daf92ebf623c8b3e06d9df1b8326"), looks := true }, kinds := [], alts := [], laidByText := true, laidKinds := [.data, .pinned], laidTests := true, laidLooks := .later }
def FnTreePutCardSaid : Prop := Claim7.holds Tryd.pinned (.plain (OpenSpec.ofChange fnTreePutSpec)) fnTreePutCard

/-- THE TIED CARD OF 'laws.FnExactTreeDrop'. -/
def fnExactTreeDropCard : Claim7 := { stood := { row := fnExactTreeDropRow, standIns := [], harness := (true, "38ff8bb60a44ee67f331a96f88365655a6d2daf92ebf623c8b3e06d9df1b8326"), looks := true }, kinds := [], alts := [], laidByText := true, laidKinds := [.data, .pinned], laidTests := true, laidLooks := .later }
def FnExactTreeDropCardSaid : Prop := Claim7.holds Tryd.pinned (.plain (OpenSpec.ofChange fnExactTreeDropSpec)) fnExactTreeDropCard

/-- THE TIED CARD OF 'laws.FnTreePutDrop'. -/
def fnTreePutDropCard : Claim7 := { stood := { row := fnTreePutDropRow, standIns := [], harness := (true, "38ff8bb60a44ee67f331a96f88365655a6d2daf92ebf623c8b3e06d9df1b8326"), looks := true }, kinds := [], alts := [], laidByText := true, laidKinds := [.data, .pinned], laidTests := true, laidLooks := .later }
def FnTreePutDropCardSaid : Prop := Claim7.holds Tryd.pinned (.plain (OpenSpec.ofChange fnTreePutDropSpec)) fnTreePutDropCard

/-- THE TIED CARD OF 'laws.FnExactTreePut'. -/
def fnExactTreePutCard : Claim7 := { stood := { row := fnExactTreePutRow, standIns := [], harness := (true, "38ff8bb60a44ee67f331a96f88365655a6d2daf92ebf623c8b3e06d9df1b8326"), looks := true }, kinds := [], alts := [], laidByText := true, laidKinds := [.data, .pinned], laidTests := true, laidLooks := .later }
def FnExactTreePutCardSaid : Prop := Claim7.holds Tryd.pinned (.plain (OpenSpec.ofChange fnExactTreePutSpec)) fnExactTreePutCard

/-- THE TIED CARD OF 'laws.FnChangesOrder'. -/
def fnChangesOrderCard : Claim7 := { stood := { row := fnChangesOrderRow, standIns := [], harness := (true, "38ff8bb60a44ee67f331a96f88365655a6d2daf92ebf623c8b3e06d9df1b8326"), looks := true }, kinds := [], alts := [], laidByText := true, laidKinds := [.data, .pinned], laidTests := true, laidLooks := .later }
def FnChangesOrderCardSaid : Prop := Claim7.holds Tryd.pinned (.plain (OpenSpec.ofChange fnChangesOrderSpec)) fnChangesOrderCard

/-- THE SECOND FORM's CARD OF 'laws.FnTreeDropFull'. -/
def fnTreeDropFullUptoCard : Claim7 := { stood := { row := fnTreeDropFullUptoRow, standIns := [], harness := (true, "38ff8bb60a44ee67f331a96f88365655a6d2daf92ebf623c8b3e06d9df1b8326"), looks := true }, kinds := [], alts := [], laidByText := true, laidKinds := [.data, .pinned], laidTests := true, laidLooks := .later }
def FnTreeDropFullUptoCardSaid : Prop := Claim7.holds Tryd.pinned (.plain (OpenSpec.upto fnTreeDropFullSpec)) fnTreeDropFullUptoCard

/-- THE SECOND FORM's CARD OF 'laws.FnTreePutDir'. -/
def fnTreePutDirUptoCard : Claim7 := { stood := { row := fnTreePutDirUptoRow, standIns := [], harness := (true, "38ff8bb60a44ee67f331a96f88365655a6d2daf92ebf623c8b3e06d9df1b8326"), looks := true }, kinds := [], alts := [], laidByText := true, laidKinds := [.data, .pinned], laidTests := true, laidLooks := .later }
def FnTreePutDirUptoCardSaid : Prop := Claim7.holds Tryd.pinned (.plain (OpenSpec.upto fnTreePutDirSpec)) fnTreePutDirUptoCard

/-- THE SECOND FORM's CARD OF 'laws.FnTreeDrop'. -/
def fnTreeDropUptoCard : Claim7 := { stood := { row := fnTreeDropUptoRow, standIns := [], harness := (true, "38ff8bb60a44ee67f331a96f88365655a6d2daf92ebf623c8b3e06d9df1b8326"), looks := true }, kinds := [], alts := [], laidByText := true, laidKinds := [.data, .pinned], laidTests := true, laidLooks := .later }
def FnTreeDropUptoCardSaid : Prop := Claim7.holds Tryd.pinned (.plain (OpenSpec.upto fnTreeDropSpec)) fnTreeDropUptoCard

/-- THE SECOND FORM's CARD OF 'laws.FnTreePut'. -/
def fnTreePutUptoCard : Claim7 := { stood := { row := fnTreePutUptoRow, standIns := [], harness := (true, "38ff8bb60a44ee67f331a96f88365655a6d2daf92ebf623c8b3e06d9df1b8326"), looks := true }, kinds := [], alts := [], laidByText := true, laidKinds := [.data, .pinned], laidTests := true, laidLooks := .later }
def FnTreePutUptoCardSaid : Prop := Claim7.holds Tryd.pinned (.plain (OpenSpec.upto fnTreePutSpec)) fnTreePutUptoCard

/-- THE SECOND FORM's CARD OF 'laws.FnExactTreeDrop'. -/
def fnExactTreeDropUptoCard : Claim7 := { stood := { row := fnExactTreeDropUptoRow, standIns := [], harness := (true, "38ff8bb60a44ee67f331a96f88365655a6d2daf92ebf623c8b3e06d9df1b8326"), looks := true }, kinds := [], alts := [], laidByText := true, laidKinds := [.data, .pinned], laidTests := true, laidLooks := .later }
def FnExactTreeDropUptoCardSaid : Prop := Claim7.holds Tryd.pinned (.plain (OpenSpec.upto fnExactTreeDropSpec)) fnExactTreeDropUptoCard

/-- THE SECOND FORM's CARD OF 'laws.FnTreePutDrop'. -/
def fnTreePutDropUptoCard : Claim7 := { stood := { row := fnTreePutDropUptoRow, standIns := [], harness := (true, "38ff8bb60a44ee67f331a96f88365655a6d2daf92ebf623c8b3e06d9df1b8326"), looks := true }, kinds := [], alts := [], laidByText := true, laidKinds := [.data, .pinned], laidTests := true, laidLooks := .later }
def FnTreePutDropUptoCardSaid : Prop := Claim7.holds Tryd.pinned (.plain (OpenSpec.upto fnTreePutDropSpec)) fnTreePutDropUptoCard

/-- THE SECOND FORM's CARD OF 'laws.FnExactTreePut'. -/
def fnExactTreePutUptoCard : Claim7 := { stood := { row := fnExactTreePutUptoRow, standIns := [], harness := (true, "38ff8bb60a44ee67f331a96f88365655a6d2daf92ebf623c8b3e06d9df1b8326"), looks := true }, kinds := [], alts := [], laidByText := true, laidKinds := [.data, .pinned], laidTests := true, laidLooks := .later }
def FnExactTreePutUptoCardSaid : Prop := Claim7.holds Tryd.pinned (.plain (OpenSpec.upto fnExactTreePutSpec)) fnExactTreePutUptoCard

/-- THE SECOND FORM's CARD OF 'laws.FnChangesOrder'. -/
def fnChangesOrderUptoCard : Claim7 := { stood := { row := fnChangesOrderUptoRow, standIns := [], harness := (true, "38ff8bb60a44ee67f331a96f88365655a6d2daf92ebf623c8b3e06d9df1b8326"), looks := true }, kinds := [], alts := [], laidByText := true, laidKinds := [.data, .pinned], laidTests := true, laidLooks := .later }
def FnChangesOrderUptoCardSaid : Prop := Claim7.holds Tryd.pinned (.plain (OpenSpec.upto fnChangesOrderSpec)) fnChangesOrderUptoCard
end Rows
end Go.Proofs.YtkffejommncinaaDoor
