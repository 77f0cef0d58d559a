/-
  DERIVED. GIVEN WITH THE SEED: THE CARDS: each row of YtnpblnkjdebedaaDoorRows.lean that lists a variable, with what it lists TIED to the program's text (the seventh form; the later family's looks); each row that meets fmt, with fmt's text TOLD by the authors' own Lean function (tested against real Go, not proved from fmt's source: count such statements apart). THE CARD IS WHAT COUNTS. Prove the row's statement (the work); the ties are given (YtnpblnkjdebedaaDoorTie.lean); close each card by the builder's one call (the guide's Derived/Test/ToyasCard.lean, 'card_holds'). Laid BY PROGRAM, IN A SANDBOX (cutbox-door.mjs). By AI agents, Wed Nov 11 2026. No macro, syntax, notation, axiom, sorry.
-/
import Derived.Test.YtnpblnkjdebedaaDoorRows
import GoSem.ClaimSeven
namespace Go.Proofs.YtnpblnkjdebedaaDoor
namespace Rows

/-- THE TIED CARD OF 'laws.FnTreePart'. -/
def fnTreePartCard : Claim7 := { stood := { row := fnTreePartRow, standIns := [], harness := (true, "870cc94516e8054008c27f7cd8f9bd02bc55ee2449eaf40d66c29bcc1c1001fe"), looks := false }, kinds := [], alts := [], laidByText := true, laidKinds := [.data, .pinned], laidTests := true, laidLooks := .later }
def FnTreePartCardSaid : Prop := Claim7.holds Tryd.pinned (.plain (OpenSpec.ofChange fnTreePartSpec)) fnTreePartCard

/-- THE TIED CARD OF 'laws.FnTreeListAll'. -/
def fnTreeListAllCard : Claim7 := { stood := { row := fnTreeListAllRow, standIns := [], harness := (true, "870cc94516e8054008c27f7cd8f9bd02bc55ee2449eaf40d66c29bcc1c1001fe"), looks := false }, kinds := [], alts := [], laidByText := true, laidKinds := [.data, .pinned], laidTests := true, laidLooks := .later }
def FnTreeListAllCardSaid : Prop := Claim7.holds Tryd.pinned (.plain (OpenSpec.ofChange fnTreeListAllSpec)) fnTreeListAllCard

/-- THE TIED CARD OF 'laws.FnExactTreeValid'. -/
def fnExactTreeValidCard : Claim7 := { stood := { row := fnExactTreeValidRow, standIns := [], harness := (true, "870cc94516e8054008c27f7cd8f9bd02bc55ee2449eaf40d66c29bcc1c1001fe"), looks := false }, kinds := [], alts := [], laidByText := true, laidKinds := [.data, .pinned], laidTests := true, laidLooks := .later }
def FnExactTreeValidCardSaid : Prop := Claim7.holds Tryd.pinned (.plain (OpenSpec.ofChange fnExactTreeValidSpec)) fnExactTreeValidCard

/-- THE TIED CARD OF 'laws.FnTreeHome'. -/
def fnTreeHomeCard : Claim7 := { stood := { row := fnTreeHomeRow, standIns := [], harness := (true, "870cc94516e8054008c27f7cd8f9bd02bc55ee2449eaf40d66c29bcc1c1001fe"), looks := false }, kinds := [], alts := [], laidByText := true, laidKinds := [.data, .pinned], laidTests := true, laidLooks := .later }
def FnTreeHomeCardSaid : Prop := Claim7.holds Tryd.pinned (.plain (OpenSpec.ofChange fnTreeHomeSpec)) fnTreeHomeCard

/-- THE TIED CARD OF 'laws.FnTreeFind'. -/
def fnTreeFindCard : Claim7 := { stood := { row := fnTreeFindRow, standIns := [], harness := (true, "870cc94516e8054008c27f7cd8f9bd02bc55ee2449eaf40d66c29bcc1c1001fe"), looks := false }, kinds := [], alts := [], laidByText := true, laidKinds := [.data, .pinned], laidTests := true, laidLooks := .later }
def FnTreeFindCardSaid : Prop := Claim7.holds Tryd.pinned (.plain (OpenSpec.ofChange fnTreeFindSpec)) fnTreeFindCard

/-- THE TIED CARD OF 'laws.FnTreeListFile'. -/
def fnTreeListFileCard : Claim7 := { stood := { row := fnTreeListFileRow, standIns := [], harness := (true, "870cc94516e8054008c27f7cd8f9bd02bc55ee2449eaf40d66c29bcc1c1001fe"), looks := false }, kinds := [], alts := [], laidByText := true, laidKinds := [.data, .pinned], laidTests := true, laidLooks := .later }
def FnTreeListFileCardSaid : Prop := Claim7.holds Tryd.pinned (.plain (OpenSpec.ofChange fnTreeListFileSpec)) fnTreeListFileCard

/-- THE TIED CARD OF 'laws.FnTreeList'. -/
def fnTreeListCard : Claim7 := { stood := { row := fnTreeListRow, standIns := [], harness := (true, "870cc94516e8054008c27f7cd8f9bd02bc55ee2449eaf40d66c29bcc1c1001fe"), looks := false }, kinds := [], alts := [], laidByText := true, laidKinds := [.data, .pinned], laidTests := true, laidLooks := .later }
def FnTreeListCardSaid : Prop := Claim7.holds Tryd.pinned (.plain (OpenSpec.ofChange fnTreeListSpec)) fnTreeListCard

/-- THE TIED CARD OF 'laws.FnExactTreeFind'. -/
def fnExactTreeFindCard : Claim7 := { stood := { row := fnExactTreeFindRow, standIns := [], harness := (true, "870cc94516e8054008c27f7cd8f9bd02bc55ee2449eaf40d66c29bcc1c1001fe"), looks := false }, kinds := [], alts := [], laidByText := true, laidKinds := [.data, .pinned], laidTests := true, laidLooks := .later }
def FnExactTreeFindCardSaid : Prop := Claim7.holds Tryd.pinned (.plain (OpenSpec.ofChange fnExactTreeFindSpec)) fnExactTreeFindCard

/-- THE TIED CARD OF 'laws.FnExactTreeList'. -/
def fnExactTreeListCard : Claim7 := { stood := { row := fnExactTreeListRow, standIns := [], harness := (true, "870cc94516e8054008c27f7cd8f9bd02bc55ee2449eaf40d66c29bcc1c1001fe"), looks := false }, kinds := [], alts := [], laidByText := true, laidKinds := [.data, .pinned], laidTests := true, laidLooks := .later }
def FnExactTreeListCardSaid : Prop := Claim7.holds Tryd.pinned (.plain (OpenSpec.ofChange fnExactTreeListSpec)) fnExactTreeListCard

/-- THE SECOND FORM's CARD OF 'laws.FnTreePart'. -/
def fnTreePartUptoCard : Claim7 := { stood := { row := fnTreePartUptoRow, standIns := [], harness := (true, "870cc94516e8054008c27f7cd8f9bd02bc55ee2449eaf40d66c29bcc1c1001fe"), looks := false }, kinds := [], alts := [], laidByText := true, laidKinds := [.data, .pinned], laidTests := true, laidLooks := .later }
def FnTreePartUptoCardSaid : Prop := Claim7.holds Tryd.pinned (.plain (OpenSpec.upto fnTreePartSpec)) fnTreePartUptoCard

/-- THE SECOND FORM's CARD OF 'laws.FnTreeListAll'. -/
def fnTreeListAllUptoCard : Claim7 := { stood := { row := fnTreeListAllUptoRow, standIns := [], harness := (true, "870cc94516e8054008c27f7cd8f9bd02bc55ee2449eaf40d66c29bcc1c1001fe"), looks := false }, kinds := [], alts := [], laidByText := true, laidKinds := [.data, .pinned], laidTests := true, laidLooks := .later }
def FnTreeListAllUptoCardSaid : Prop := Claim7.holds Tryd.pinned (.plain (OpenSpec.upto fnTreeListAllSpec)) fnTreeListAllUptoCard

/-- THE SECOND FORM's CARD OF 'laws.FnExactTreeValid'. -/
def fnExactTreeValidUptoCard : Claim7 := { stood := { row := fnExactTreeValidUptoRow, standIns := [], harness := (true, "870cc94516e8054008c27f7cd8f9bd02bc55ee2449eaf40d66c29bcc1c1001fe"), looks := false }, kinds := [], alts := [], laidByText := true, laidKinds := [.data, .pinned], laidTests := true, laidLooks := .later }
def FnExactTreeValidUptoCardSaid : Prop := Claim7.holds Tryd.pinned (.plain (OpenSpec.upto fnExactTreeValidSpec)) fnExactTreeValidUptoCard

/-- THE SECOND FORM's CARD OF 'laws.FnTreeHome'. -/
def fnTreeHomeUptoCard : Claim7 := { stood := { row := fnTreeHomeUptoRow, standIns := [], harness := (true, "870cc94516e8054008c27f7cd8f9bd02bc55ee2449eaf40d66c29bcc1c1001fe"), looks := false }, kinds := [], alts := [], laidByText := true, laidKinds := [.data, .pinned], laidTests := true, laidLooks := .later }
def FnTreeHomeUptoCardSaid : Prop := Claim7.holds Tryd.pinned (.plain (OpenSpec.upto fnTreeHomeSpec)) fnTreeHomeUptoCard

/-- THE SECOND FORM's CARD OF 'laws.FnTreeFind'. -/
def fnTreeFindUptoCard : Claim7 := { stood := { row := fnTreeFindUptoRow, standIns := [], harness := (true, "870cc94516e8054008c27f7cd8f9bd02bc55ee2449eaf40d66c29bcc1c1001fe"), looks := false }, kinds := [], alts := [], laidByText := true, laidKinds := [.data, .pinned], laidTests := true, laidLooks := .later }
def FnTreeFindUptoCardSaid : Prop := Claim7.holds Tryd.pinned (.plain (OpenSpec.upto fnTreeFindSpec)) fnTreeFindUptoCard

/-- THE SECOND FORM's CARD OF 'laws.FnTreeListFile'. -/
def fnTreeListFileUptoCard : Claim7 := { stood := { row := fnTreeListFileUptoRow, standIns := [], harness := (true, "870cc94516e8054008c27f7cd8f9bd02bc55ee2449eaf40d66c29bcc1c1001fe"), looks := false }, kinds := [], alts := [], laidByText := true, laidKinds := [.data, .pinned], laidTests := true, laidLooks := .later }
def FnTreeListFileUptoCardSaid : Prop := Claim7.holds Tryd.pinned (.plain (OpenSpec.upto fnTreeListFileSpec)) fnTreeListFileUptoCard

/-- THE SECOND FORM's CARD OF 'laws.FnTreeList'. -/
def fnTreeListUptoCard : Claim7 := { stood := { row := fnTreeListUptoRow, standIns := [], harness := (true, "870cc94516e8054008c27f7cd8f9bd02bc55ee2449eaf40d66c29bcc1c1001fe"), looks := false }, kinds := [], alts := [], laidByText := true, laidKinds := [.data, .pinned], laidTests := true, laidLooks := .later }
def FnTreeListUptoCardSaid : Prop := Claim7.holds Tryd.pinned (.plain (OpenSpec.upto fnTreeListSpec)) fnTreeListUptoCard

/-- THE SECOND FORM's CARD OF 'laws.FnExactTreeFind'. -/
def fnExactTreeFindUptoCard : Claim7 := { stood := { row := fnExactTreeFindUptoRow, standIns := [], harness := (true, "870cc94516e8054008c27f7cd8f9bd02bc55ee2449eaf40d66c29bcc1c1001fe"), looks := false }, kinds := [], alts := [], laidByText := true, laidKinds := [.data, .pinned], laidTests := true, laidLooks := .later }
def FnExactTreeFindUptoCardSaid : Prop := Claim7.holds Tryd.pinned (.plain (OpenSpec.upto fnExactTreeFindSpec)) fnExactTreeFindUptoCard

/-- THE SECOND FORM's CARD OF 'laws.FnExactTreeList'. -/
def fnExactTreeListUptoCard : Claim7 := { stood := { row := fnExactTreeListUptoRow, standIns := [], harness := (true, "870cc94516e8054008c27f7cd8f9bd02bc55ee2449eaf40d66c29bcc1c1001fe"), looks := false }, kinds := [], alts := [], laidByText := true, laidKinds := [.data, .pinned], laidTests := true, laidLooks := .later }
def FnExactTreeListUptoCardSaid : Prop := Claim7.holds Tryd.pinned (.plain (OpenSpec.upto fnExactTreeListSpec)) fnExactTreeListUptoCard
end Rows
end Go.Proofs.YtnpblnkjdebedaaDoor
