/-
  NARROWER THAN 'FOR EVERY INPUT', by the rows' own cells (each row's printed sentence says how): FnTreePart: laid · FnTreeListAll: laid · FnExactTreeValid: laid · FnTreeHome: laid · FnTreeFind: laid · FnTreeListFile: laid · FnTreeList: laid · FnExactTreeFind: laid · FnExactTreeList: laid.
  DERIVED. THE GIVEN ROWS OF THIS SEAT. 9 by the template 'for every input the law returns true; each argument reads behind the call as it read before'; 0 by the template 'total and deterministic' (their statements: YtnpblnkjdebedaaDoorTotals.lean).
  GIVEN WITH THE SEED: the statements are not yours to turn. If you find one false, say at which input.
  Laid BY PROGRAM, IN A SANDBOX (cutbox-rows.mjs): the forced cells as the released guide's own fill.sh prints them over the translation 50edfc7189555e00… (all of the seat's roots in one cut). By AI agents, Wed Nov 11 2026. No macro, syntax, notation, axiom, sorry.
-/
import Derived.Test.YtnpblnkjdebedaaDoorChecked
import GoSem.PinnedTables
import GoSem.Claim
import GoSem.ClaimJoined
import GoSem.ClaimMapViews
import Derived.JoinedTies
import Derived.KernelRfl
namespace Go.Proofs.YtnpblnkjdebedaaDoor
/- THE CELL 'sum', in the pinned program and in every row, IS THE sha256 OF THE DUMP (.gsa) THAT YtnpblnkjdebedaaDoorProg.lean LOADS. Nothing in Lean hashes anything: it is a label: what it is worth is what the hold of that sum in a sandbox is worth. -/
noncomputable def Tryd.pinned : Pinned := { name := "ytnpblnkjdebedaadoor", sum := "50edfc7189555e00838e7c6210c02c745dd40ae077672355a3b1e2240b089484", checked := Tryd.checked }
namespace Rows
def none {H : Type} : Left H := { results := [], args := [] }

/- WHAT THE LISTED PACKAGE-LEVEL VARIABLES READ AS WHEN THE CALL BEGINS. Each datum BY PROGRAM (the guide's laid-datum.mjs) off the statement by which the dump's own 'gosem.cut.vars' lays the variable. In a bare row this is a premise. The card (YtnpblnkjdebedaaDoorCards.lean) ties it to the program's text. -/
def laid_unicode_utf8_acceptRanges {H : Type} : DataW H := .agg [.agg [.lit (.int .u8 128), .lit (.int .u8 191)], .agg [.lit (.int .u8 160), .lit (.int .u8 191)], .agg [.lit (.int .u8 128), .lit (.int .u8 159)], .agg [.lit (.int .u8 144), .lit (.int .u8 191)], .agg [.lit (.int .u8 128), .lit (.int .u8 143)], .agg [.lit (.int .u8 0), .lit (.int .u8 0)], .agg [.lit (.int .u8 0), .lit (.int .u8 0)], .agg [.lit (.int .u8 0), .lit (.int .u8 0)], .agg [.lit (.int .u8 0), .lit (.int .u8 0)], .agg [.lit (.int .u8 0), .lit (.int .u8 0)], .agg [.lit (.int .u8 0), .lit (.int .u8 0)], .agg [.lit (.int .u8 0), .lit (.int .u8 0)], .agg [.lit (.int .u8 0), .lit (.int .u8 0)], .agg [.lit (.int .u8 0), .lit (.int .u8 0)], .agg [.lit (.int .u8 0), .lit (.int .u8 0)], .agg [.lit (.int .u8 0), .lit (.int .u8 0)]]
/-- One of Go's own tables, pinned by name: the form's constant. -/
def laid_unicode_utf8_first : DataW Unit := Go.Pinned.utf8First

/-- 'laws.FnTreePart': WHATEVER THE INPUT: true; the input reads as it did. -/
def fnTreePartSpec : ChangeSpec := { name := "fnTreePart", fn := fun _ => fun
  | [d] => { results := [.lit (.bool true)], args := [d] }
  | _ => none }
def fnTreePartRow : OpenClaim := { program := "ytnpblnkjdebedaadoor", sum := "50edfc7189555e00838e7c6210c02c745dd40ae077672355a3b1e2240b089484", func := "loop.example/snapshotfiles/laws.FnTreePart", spec := "fnTreePart", inPlace := ["internal/bytealg.CountString", "internal/bytealg.IndexByteString", "internal/bytealg.IndexString", "slices.overlaps[*loop.example/snapshotfiles/impl.node]"], unfollowed := true, recurses := true, named := ["unicode/utf8.first", "unicode/utf8.acceptRanges", "internal/bytealg.MaxLen"], apart := false, laid := [("unicode/utf8.acceptRanges", laid_unicode_utf8_acceptRanges), ("unicode/utf8.first", laid_unicode_utf8_first)] }
def FnTreePartSaid : Prop := fnTreePartRow.holds Tryd.pinned (OpenSpec.ofChange fnTreePartSpec)

/-- ITS FALSE NEIGHBOUR: 'it returns false'. Refute it at one input. -/
def fnTreePartWrong : ChangeSpec := { name := "fnTreePart", fn := fun _ => fun
  | [d] => { results := [.lit (.bool false)], args := [d] }
  | _ => none }
def FnTreePartWrongFalsely : Prop := fnTreePartRow.holds Tryd.pinned (OpenSpec.ofChange fnTreePartWrong)

/-- 'laws.FnTreeListAll': WHATEVER THE INPUT: true; the input reads as it did. -/
def fnTreeListAllSpec : ChangeSpec := { name := "fnTreeListAll", fn := fun _ => fun
  | [d] => { results := [.lit (.bool true)], args := [d] }
  | _ => none }
def fnTreeListAllRow : OpenClaim := { program := "ytnpblnkjdebedaadoor", sum := "50edfc7189555e00838e7c6210c02c745dd40ae077672355a3b1e2240b089484", func := "loop.example/snapshotfiles/laws.FnTreeListAll", spec := "fnTreeListAll", inPlace := ["internal/bytealg.CountString", "internal/bytealg.IndexByteString", "internal/bytealg.IndexString", "slices.overlaps[*loop.example/snapshotfiles/impl.node]"], unfollowed := true, recurses := true, named := ["unicode/utf8.first", "unicode/utf8.acceptRanges", "internal/bytealg.MaxLen"], apart := false, laid := [("unicode/utf8.acceptRanges", laid_unicode_utf8_acceptRanges), ("unicode/utf8.first", laid_unicode_utf8_first)] }
def FnTreeListAllSaid : Prop := fnTreeListAllRow.holds Tryd.pinned (OpenSpec.ofChange fnTreeListAllSpec)

/-- ITS FALSE NEIGHBOUR: 'it returns false'. Refute it at one input. -/
def fnTreeListAllWrong : ChangeSpec := { name := "fnTreeListAll", fn := fun _ => fun
  | [d] => { results := [.lit (.bool false)], args := [d] }
  | _ => none }
def FnTreeListAllWrongFalsely : Prop := fnTreeListAllRow.holds Tryd.pinned (OpenSpec.ofChange fnTreeListAllWrong)

/-- 'laws.FnExactTreeValid': WHATEVER THE INPUT: true; the input reads as it did. -/
def fnExactTreeValidSpec : ChangeSpec := { name := "fnExactTreeValid", fn := fun _ => fun
  | [d] => { results := [.lit (.bool true)], args := [d] }
  | _ => none }
def fnExactTreeValidRow : OpenClaim := { program := "ytnpblnkjdebedaadoor", sum := "50edfc7189555e00838e7c6210c02c745dd40ae077672355a3b1e2240b089484", func := "loop.example/snapshotfiles/laws.FnExactTreeValid", spec := "fnExactTreeValid", inPlace := ["internal/bytealg.CountString", "internal/bytealg.IndexByteString", "internal/bytealg.IndexString", "slices.overlaps[*loop.example/snapshotfiles/impl.node]"], unfollowed := true, recurses := true, named := ["unicode/utf8.first", "unicode/utf8.acceptRanges", "internal/bytealg.MaxLen"], apart := false, laid := [("unicode/utf8.acceptRanges", laid_unicode_utf8_acceptRanges), ("unicode/utf8.first", laid_unicode_utf8_first)] }
def FnExactTreeValidSaid : Prop := fnExactTreeValidRow.holds Tryd.pinned (OpenSpec.ofChange fnExactTreeValidSpec)

/-- ITS FALSE NEIGHBOUR: 'it returns false'. Refute it at one input. -/
def fnExactTreeValidWrong : ChangeSpec := { name := "fnExactTreeValid", fn := fun _ => fun
  | [d] => { results := [.lit (.bool false)], args := [d] }
  | _ => none }
def FnExactTreeValidWrongFalsely : Prop := fnExactTreeValidRow.holds Tryd.pinned (OpenSpec.ofChange fnExactTreeValidWrong)

/-- 'laws.FnTreeHome': WHATEVER THE INPUT: true; the input reads as it did. -/
def fnTreeHomeSpec : ChangeSpec := { name := "fnTreeHome", fn := fun _ => fun
  | [d] => { results := [.lit (.bool true)], args := [d] }
  | _ => none }
def fnTreeHomeRow : OpenClaim := { program := "ytnpblnkjdebedaadoor", sum := "50edfc7189555e00838e7c6210c02c745dd40ae077672355a3b1e2240b089484", func := "loop.example/snapshotfiles/laws.FnTreeHome", spec := "fnTreeHome", inPlace := ["internal/bytealg.CountString", "internal/bytealg.IndexByteString", "internal/bytealg.IndexString", "slices.overlaps[*loop.example/snapshotfiles/impl.node]"], unfollowed := true, recurses := true, named := ["unicode/utf8.first", "unicode/utf8.acceptRanges", "internal/bytealg.MaxLen"], apart := false, laid := [("unicode/utf8.acceptRanges", laid_unicode_utf8_acceptRanges), ("unicode/utf8.first", laid_unicode_utf8_first)] }
def FnTreeHomeSaid : Prop := fnTreeHomeRow.holds Tryd.pinned (OpenSpec.ofChange fnTreeHomeSpec)

/-- ITS FALSE NEIGHBOUR: 'it returns false'. Refute it at one input. -/
def fnTreeHomeWrong : ChangeSpec := { name := "fnTreeHome", fn := fun _ => fun
  | [d] => { results := [.lit (.bool false)], args := [d] }
  | _ => none }
def FnTreeHomeWrongFalsely : Prop := fnTreeHomeRow.holds Tryd.pinned (OpenSpec.ofChange fnTreeHomeWrong)

/-- 'laws.FnTreeFind': WHATEVER THE INPUT: true; the input reads as it did. -/
def fnTreeFindSpec : ChangeSpec := { name := "fnTreeFind", fn := fun _ => fun
  | [d] => { results := [.lit (.bool true)], args := [d] }
  | _ => none }
def fnTreeFindRow : OpenClaim := { program := "ytnpblnkjdebedaadoor", sum := "50edfc7189555e00838e7c6210c02c745dd40ae077672355a3b1e2240b089484", func := "loop.example/snapshotfiles/laws.FnTreeFind", spec := "fnTreeFind", inPlace := ["internal/bytealg.CountString", "internal/bytealg.IndexByteString", "internal/bytealg.IndexString", "slices.overlaps[*loop.example/snapshotfiles/impl.node]"], unfollowed := true, recurses := true, named := ["unicode/utf8.first", "unicode/utf8.acceptRanges", "internal/bytealg.MaxLen"], apart := false, laid := [("unicode/utf8.acceptRanges", laid_unicode_utf8_acceptRanges), ("unicode/utf8.first", laid_unicode_utf8_first)] }
def FnTreeFindSaid : Prop := fnTreeFindRow.holds Tryd.pinned (OpenSpec.ofChange fnTreeFindSpec)

/-- ITS FALSE NEIGHBOUR: 'it returns false'. Refute it at one input. -/
def fnTreeFindWrong : ChangeSpec := { name := "fnTreeFind", fn := fun _ => fun
  | [d] => { results := [.lit (.bool false)], args := [d] }
  | _ => none }
def FnTreeFindWrongFalsely : Prop := fnTreeFindRow.holds Tryd.pinned (OpenSpec.ofChange fnTreeFindWrong)

/-- 'laws.FnTreeListFile': WHATEVER THE INPUT: true; the input reads as it did. -/
def fnTreeListFileSpec : ChangeSpec := { name := "fnTreeListFile", fn := fun _ => fun
  | [d] => { results := [.lit (.bool true)], args := [d] }
  | _ => none }
def fnTreeListFileRow : OpenClaim := { program := "ytnpblnkjdebedaadoor", sum := "50edfc7189555e00838e7c6210c02c745dd40ae077672355a3b1e2240b089484", func := "loop.example/snapshotfiles/laws.FnTreeListFile", spec := "fnTreeListFile", inPlace := ["internal/bytealg.CountString", "internal/bytealg.IndexByteString", "internal/bytealg.IndexString", "slices.overlaps[*loop.example/snapshotfiles/impl.node]"], unfollowed := true, recurses := true, named := ["unicode/utf8.first", "unicode/utf8.acceptRanges", "internal/bytealg.MaxLen"], apart := false, laid := [("unicode/utf8.acceptRanges", laid_unicode_utf8_acceptRanges), ("unicode/utf8.first", laid_unicode_utf8_first)] }
def FnTreeListFileSaid : Prop := fnTreeListFileRow.holds Tryd.pinned (OpenSpec.ofChange fnTreeListFileSpec)

/-- ITS FALSE NEIGHBOUR: 'it returns false'. Refute it at one input. -/
def fnTreeListFileWrong : ChangeSpec := { name := "fnTreeListFile", fn := fun _ => fun
  | [d] => { results := [.lit (.bool false)], args := [d] }
  | _ => none }
def FnTreeListFileWrongFalsely : Prop := fnTreeListFileRow.holds Tryd.pinned (OpenSpec.ofChange fnTreeListFileWrong)

/-- 'laws.FnTreeList': WHATEVER THE INPUT: true; the input reads as it did. -/
def fnTreeListSpec : ChangeSpec := { name := "fnTreeList", fn := fun _ => fun
  | [d] => { results := [.lit (.bool true)], args := [d] }
  | _ => none }
def fnTreeListRow : OpenClaim := { program := "ytnpblnkjdebedaadoor", sum := "50edfc7189555e00838e7c6210c02c745dd40ae077672355a3b1e2240b089484", func := "loop.example/snapshotfiles/laws.FnTreeList", spec := "fnTreeList", inPlace := ["internal/bytealg.CountString", "internal/bytealg.IndexByteString", "internal/bytealg.IndexString", "slices.overlaps[*loop.example/snapshotfiles/impl.node]"], unfollowed := true, recurses := true, named := ["unicode/utf8.first", "unicode/utf8.acceptRanges", "internal/bytealg.MaxLen"], apart := false, laid := [("unicode/utf8.acceptRanges", laid_unicode_utf8_acceptRanges), ("unicode/utf8.first", laid_unicode_utf8_first)] }
def FnTreeListSaid : Prop := fnTreeListRow.holds Tryd.pinned (OpenSpec.ofChange fnTreeListSpec)

/-- ITS FALSE NEIGHBOUR: 'it returns false'. Refute it at one input. -/
def fnTreeListWrong : ChangeSpec := { name := "fnTreeList", fn := fun _ => fun
  | [d] => { results := [.lit (.bool false)], args := [d] }
  | _ => none }
def FnTreeListWrongFalsely : Prop := fnTreeListRow.holds Tryd.pinned (OpenSpec.ofChange fnTreeListWrong)

/-- 'laws.FnExactTreeFind': WHATEVER THE INPUT: true; the input reads as it did. -/
def fnExactTreeFindSpec : ChangeSpec := { name := "fnExactTreeFind", fn := fun _ => fun
  | [d1, d2] => { results := [.lit (.bool true)], args := [d1, d2] }
  | _ => none }
def fnExactTreeFindRow : OpenClaim := { program := "ytnpblnkjdebedaadoor", sum := "50edfc7189555e00838e7c6210c02c745dd40ae077672355a3b1e2240b089484", func := "loop.example/snapshotfiles/laws.FnExactTreeFind", spec := "fnExactTreeFind", inPlace := ["internal/bytealg.CountString", "internal/bytealg.IndexByteString", "internal/bytealg.IndexString", "slices.overlaps[*loop.example/snapshotfiles/impl.node]"], unfollowed := true, recurses := true, named := ["unicode/utf8.first", "unicode/utf8.acceptRanges", "internal/bytealg.MaxLen"], apart := false, laid := [("unicode/utf8.acceptRanges", laid_unicode_utf8_acceptRanges), ("unicode/utf8.first", laid_unicode_utf8_first)] }
def FnExactTreeFindSaid : Prop := fnExactTreeFindRow.holds Tryd.pinned (OpenSpec.ofChange fnExactTreeFindSpec)

/-- ITS FALSE NEIGHBOUR: 'it returns false'. Refute it at one input. -/
def fnExactTreeFindWrong : ChangeSpec := { name := "fnExactTreeFind", fn := fun _ => fun
  | [d1, d2] => { results := [.lit (.bool false)], args := [d1, d2] }
  | _ => none }
def FnExactTreeFindWrongFalsely : Prop := fnExactTreeFindRow.holds Tryd.pinned (OpenSpec.ofChange fnExactTreeFindWrong)

/-- 'laws.FnExactTreeList': WHATEVER THE INPUT: true; the input reads as it did. -/
def fnExactTreeListSpec : ChangeSpec := { name := "fnExactTreeList", fn := fun _ => fun
  | [d1, d2] => { results := [.lit (.bool true)], args := [d1, d2] }
  | _ => none }
def fnExactTreeListRow : OpenClaim := { program := "ytnpblnkjdebedaadoor", sum := "50edfc7189555e00838e7c6210c02c745dd40ae077672355a3b1e2240b089484", func := "loop.example/snapshotfiles/laws.FnExactTreeList", spec := "fnExactTreeList", inPlace := ["internal/bytealg.CountString", "internal/bytealg.IndexByteString", "internal/bytealg.IndexString", "slices.overlaps[*loop.example/snapshotfiles/impl.node]"], unfollowed := true, recurses := true, named := ["unicode/utf8.first", "unicode/utf8.acceptRanges", "internal/bytealg.MaxLen"], apart := false, laid := [("unicode/utf8.acceptRanges", laid_unicode_utf8_acceptRanges), ("unicode/utf8.first", laid_unicode_utf8_first)] }
def FnExactTreeListSaid : Prop := fnExactTreeListRow.holds Tryd.pinned (OpenSpec.ofChange fnExactTreeListSpec)

/-- ITS FALSE NEIGHBOUR: 'it returns false'. Refute it at one input. -/
def fnExactTreeListWrong : ChangeSpec := { name := "fnExactTreeList", fn := fun _ => fun
  | [d1, d2] => { results := [.lit (.bool false)], args := [d1, d2] }
  | _ => none }
def FnExactTreeListWrongFalsely : Prop := fnExactTreeListRow.holds Tryd.pinned (OpenSpec.ofChange fnExactTreeListWrong)

/- THE SECOND FORM. 'bulk': how many values and letters a reading holds, each counted each time it is reached (what is shared counts as often as it is met; a slice's spare places count too). A statement '..UptoSaid' is the law's where the arguments, and the package variables that the reading takes, are together of bulk at most 1048576: NARROWER than '..Said'. Prove '..Said' where nothing that the law and all that it calls make is longer than what came in: it says more and counts as full. Else prove '..UptoSaid'. A law counts once. -/
mutual
def uptoBulk {H : Type} : DataW H → Nat
  | .lit (.string bytes) => bytes.length + 1
  | .lit _ => 1
  | .nil => 1
  | .ptr d => uptoBulk d + 1
  | .slice elems spare => uptoBulkAll elems + uptoBulkAll spare + 1
  | .agg parts => uptoBulkAll parts + 1
  | .iface _ d => uptoBulk d + 1
  | .map entries => uptoBulkEntries entries + 1
  | .held _ => 1
def uptoBulkAll {H : Type} : List (DataW H) → Nat
  | [] => 0
  | d :: r => uptoBulk d + uptoBulkAll r
def uptoBulkEntries {H : Type} : List (Lit × DataW H) → Nat
  | [] => 0
  | x :: r => uptoBulkEntry x + uptoBulkEntries r
def uptoBulkEntry {H : Type} : Lit × DataW H → Nat
  | (.string bytes, d) => bytes.length + uptoBulk d + 1
  | (_, d) => uptoBulk d + 1
 end
def uptoSmall : (H : Type) → List (DataW H) → Bool := fun _ ds => decide (uptoBulkAll ds ≤ 1048576)
def OpenSpec.upto (s : _root_.Go.ChangeSpec) : _root_.Go.OpenSpec := { _root_.Go.OpenSpec.ofChange s with cond := some uptoSmall }

/-- 'laws.FnTreePart', WHERE WHAT IT READS IS OF BULK AT MOST 1048576: true; the input reads as it did. -/
def fnTreePartUptoRow : OpenClaim := { program := "ytnpblnkjdebedaadoor", sum := "50edfc7189555e00838e7c6210c02c745dd40ae077672355a3b1e2240b089484", func := "loop.example/snapshotfiles/laws.FnTreePart", spec := "fnTreePart", inPlace := ["internal/bytealg.CountString", "internal/bytealg.IndexByteString", "internal/bytealg.IndexString", "slices.overlaps[*loop.example/snapshotfiles/impl.node]"], unfollowed := true, recurses := true, named := ["unicode/utf8.first", "unicode/utf8.acceptRanges", "internal/bytealg.MaxLen"], apart := false, laid := [("unicode/utf8.acceptRanges", laid_unicode_utf8_acceptRanges), ("unicode/utf8.first", laid_unicode_utf8_first)], narrowed := true }
def FnTreePartUptoSaid : Prop := fnTreePartUptoRow.holds Tryd.pinned (OpenSpec.upto fnTreePartSpec)

/-- 'laws.FnTreeListAll', WHERE WHAT IT READS IS OF BULK AT MOST 1048576: true; the input reads as it did. -/
def fnTreeListAllUptoRow : OpenClaim := { program := "ytnpblnkjdebedaadoor", sum := "50edfc7189555e00838e7c6210c02c745dd40ae077672355a3b1e2240b089484", func := "loop.example/snapshotfiles/laws.FnTreeListAll", spec := "fnTreeListAll", inPlace := ["internal/bytealg.CountString", "internal/bytealg.IndexByteString", "internal/bytealg.IndexString", "slices.overlaps[*loop.example/snapshotfiles/impl.node]"], unfollowed := true, recurses := true, named := ["unicode/utf8.first", "unicode/utf8.acceptRanges", "internal/bytealg.MaxLen"], apart := false, laid := [("unicode/utf8.acceptRanges", laid_unicode_utf8_acceptRanges), ("unicode/utf8.first", laid_unicode_utf8_first)], narrowed := true }
def FnTreeListAllUptoSaid : Prop := fnTreeListAllUptoRow.holds Tryd.pinned (OpenSpec.upto fnTreeListAllSpec)

/-- 'laws.FnExactTreeValid', WHERE WHAT IT READS IS OF BULK AT MOST 1048576: true; the input reads as it did. -/
def fnExactTreeValidUptoRow : OpenClaim := { program := "ytnpblnkjdebedaadoor", sum := "50edfc7189555e00838e7c6210c02c745dd40ae077672355a3b1e2240b089484", func := "loop.example/snapshotfiles/laws.FnExactTreeValid", spec := "fnExactTreeValid", inPlace := ["internal/bytealg.CountString", "internal/bytealg.IndexByteString", "internal/bytealg.IndexString", "slices.overlaps[*loop.example/snapshotfiles/impl.node]"], unfollowed := true, recurses := true, named := ["unicode/utf8.first", "unicode/utf8.acceptRanges", "internal/bytealg.MaxLen"], apart := false, laid := [("unicode/utf8.acceptRanges", laid_unicode_utf8_acceptRanges), ("unicode/utf8.first", laid_unicode_utf8_first)], narrowed := true }
def FnExactTreeValidUptoSaid : Prop := fnExactTreeValidUptoRow.holds Tryd.pinned (OpenSpec.upto fnExactTreeValidSpec)

/-- 'laws.FnTreeHome', WHERE WHAT IT READS IS OF BULK AT MOST 1048576: true; the input reads as it did. -/
def fnTreeHomeUptoRow : OpenClaim := { program := "ytnpblnkjdebedaadoor", sum := "50edfc7189555e00838e7c6210c02c745dd40ae077672355a3b1e2240b089484", func := "loop.example/snapshotfiles/laws.FnTreeHome", spec := "fnTreeHome", inPlace := ["internal/bytealg.CountString", "internal/bytealg.IndexByteString", "internal/bytealg.IndexString", "slices.overlaps[*loop.example/snapshotfiles/impl.node]"], unfollowed := true, recurses := true, named := ["unicode/utf8.first", "unicode/utf8.acceptRanges", "internal/bytealg.MaxLen"], apart := false, laid := [("unicode/utf8.acceptRanges", laid_unicode_utf8_acceptRanges), ("unicode/utf8.first", laid_unicode_utf8_first)], narrowed := true }
def FnTreeHomeUptoSaid : Prop := fnTreeHomeUptoRow.holds Tryd.pinned (OpenSpec.upto fnTreeHomeSpec)

/-- 'laws.FnTreeFind', WHERE WHAT IT READS IS OF BULK AT MOST 1048576: true; the input reads as it did. -/
def fnTreeFindUptoRow : OpenClaim := { program := "ytnpblnkjdebedaadoor", sum := "50edfc7189555e00838e7c6210c02c745dd40ae077672355a3b1e2240b089484", func := "loop.example/snapshotfiles/laws.FnTreeFind", spec := "fnTreeFind", inPlace := ["internal/bytealg.CountString", "internal/bytealg.IndexByteString", "internal/bytealg.IndexString", "slices.overlaps[*loop.example/snapshotfiles/impl.node]"], unfollowed := true, recurses := true, named := ["unicode/utf8.first", "unicode/utf8.acceptRanges", "internal/bytealg.MaxLen"], apart := false, laid := [("unicode/utf8.acceptRanges", laid_unicode_utf8_acceptRanges), ("unicode/utf8.first", laid_unicode_utf8_first)], narrowed := true }
def FnTreeFindUptoSaid : Prop := fnTreeFindUptoRow.holds Tryd.pinned (OpenSpec.upto fnTreeFindSpec)

/-- 'laws.FnTreeListFile', WHERE WHAT IT READS IS OF BULK AT MOST 1048576: true; the input reads as it did. -/
def fnTreeListFileUptoRow : OpenClaim := { program := "ytnpblnkjdebedaadoor", sum := "50edfc7189555e00838e7c6210c02c745dd40ae077672355a3b1e2240b089484", func := "loop.example/snapshotfiles/laws.FnTreeListFile", spec := "fnTreeListFile", inPlace := ["internal/bytealg.CountString", "internal/bytealg.IndexByteString", "internal/bytealg.IndexString", "slices.overlaps[*loop.example/snapshotfiles/impl.node]"], unfollowed := true, recurses := true, named := ["unicode/utf8.first", "unicode/utf8.acceptRanges", "internal/bytealg.MaxLen"], apart := false, laid := [("unicode/utf8.acceptRanges", laid_unicode_utf8_acceptRanges), ("unicode/utf8.first", laid_unicode_utf8_first)], narrowed := true }
def FnTreeListFileUptoSaid : Prop := fnTreeListFileUptoRow.holds Tryd.pinned (OpenSpec.upto fnTreeListFileSpec)

/-- 'laws.FnTreeList', WHERE WHAT IT READS IS OF BULK AT MOST 1048576: true; the input reads as it did. -/
def fnTreeListUptoRow : OpenClaim := { program := "ytnpblnkjdebedaadoor", sum := "50edfc7189555e00838e7c6210c02c745dd40ae077672355a3b1e2240b089484", func := "loop.example/snapshotfiles/laws.FnTreeList", spec := "fnTreeList", inPlace := ["internal/bytealg.CountString", "internal/bytealg.IndexByteString", "internal/bytealg.IndexString", "slices.overlaps[*loop.example/snapshotfiles/impl.node]"], unfollowed := true, recurses := true, named := ["unicode/utf8.first", "unicode/utf8.acceptRanges", "internal/bytealg.MaxLen"], apart := false, laid := [("unicode/utf8.acceptRanges", laid_unicode_utf8_acceptRanges), ("unicode/utf8.first", laid_unicode_utf8_first)], narrowed := true }
def FnTreeListUptoSaid : Prop := fnTreeListUptoRow.holds Tryd.pinned (OpenSpec.upto fnTreeListSpec)

/-- 'laws.FnExactTreeFind', WHERE WHAT IT READS IS OF BULK AT MOST 1048576: true; the input reads as it did. -/
def fnExactTreeFindUptoRow : OpenClaim := { program := "ytnpblnkjdebedaadoor", sum := "50edfc7189555e00838e7c6210c02c745dd40ae077672355a3b1e2240b089484", func := "loop.example/snapshotfiles/laws.FnExactTreeFind", spec := "fnExactTreeFind", inPlace := ["internal/bytealg.CountString", "internal/bytealg.IndexByteString", "internal/bytealg.IndexString", "slices.overlaps[*loop.example/snapshotfiles/impl.node]"], unfollowed := true, recurses := true, named := ["unicode/utf8.first", "unicode/utf8.acceptRanges", "internal/bytealg.MaxLen"], apart := false, laid := [("unicode/utf8.acceptRanges", laid_unicode_utf8_acceptRanges), ("unicode/utf8.first", laid_unicode_utf8_first)], narrowed := true }
def FnExactTreeFindUptoSaid : Prop := fnExactTreeFindUptoRow.holds Tryd.pinned (OpenSpec.upto fnExactTreeFindSpec)

/-- 'laws.FnExactTreeList', WHERE WHAT IT READS IS OF BULK AT MOST 1048576: true; the input reads as it did. -/
def fnExactTreeListUptoRow : OpenClaim := { program := "ytnpblnkjdebedaadoor", sum := "50edfc7189555e00838e7c6210c02c745dd40ae077672355a3b1e2240b089484", func := "loop.example/snapshotfiles/laws.FnExactTreeList", spec := "fnExactTreeList", inPlace := ["internal/bytealg.CountString", "internal/bytealg.IndexByteString", "internal/bytealg.IndexString", "slices.overlaps[*loop.example/snapshotfiles/impl.node]"], unfollowed := true, recurses := true, named := ["unicode/utf8.first", "unicode/utf8.acceptRanges", "internal/bytealg.MaxLen"], apart := false, laid := [("unicode/utf8.acceptRanges", laid_unicode_utf8_acceptRanges), ("unicode/utf8.first", laid_unicode_utf8_first)], narrowed := true }
def FnExactTreeListUptoSaid : Prop := fnExactTreeListUptoRow.holds Tryd.pinned (OpenSpec.upto fnExactTreeListSpec)

end Rows
end Go.Proofs.YtnpblnkjdebedaaDoor
