/-
  NARROWER THAN 'FOR EVERY INPUT', by the rows' own cells (each row's printed sentence says how): FnTreeDropFull: laid · FnTreePutDir: laid · FnTreeDrop: laid · FnTreePut: laid · FnExactTreeDrop: laid · FnTreePutDrop: laid · FnExactTreePut: laid · FnChangesOrder: laid.
  DERIVED. THE GIVEN ROWS OF THIS SEAT. 8 by the template 'for every input the law returns true; each argument reads behind the call as it read before'; 0 by the template 'total and deterministic' (their statements: YtkffejommncinaaDoorTotals.lean).
  GIVEN WITH THE SEED: the statements are not yours to turn. If you find one false, say at which input.
  Laid BY PROGRAM, IN A SANDBOX (cutbox-rows.mjs): the forced cells as the released guide's own fill.sh prints them over the translation 4e771eb7f725c3bd… (all of the seat's roots in one cut). By AI agents, Wed Nov 11 2026. No macro, syntax, notation, axiom, sorry.
-/
import Derived.Test.YtkffejommncinaaDoorChecked
import GoSem.PinnedTables
import GoSem.Claim
import GoSem.ClaimJoined
import GoSem.ClaimMapViews
import Derived.JoinedTies
import Derived.KernelRfl
namespace Go.Proofs.YtkffejommncinaaDoor
/- THE CELL 'sum', in the pinned program and in every row, IS THE sha256 OF THE DUMP (.gsa) THAT YtkffejommncinaaDoorProg.lean LOADS. Nothing in Lean hashes anything: it is a label: what it is worth is what the hold of that sum in a sandbox is worth. -/
noncomputable def Tryd.pinned : Pinned := { name := "ytkffejommncinaadoor", sum := "4e771eb7f725c3bd004421d11b2085d7befdf8faeeee0ddffe233bd8afcfb19d", checked := Tryd.checked }
namespace Rows
def none {H : Type} : Left H := { results := [], args := [] }

/- WHAT THE LISTED PACKAGE-LEVEL VARIABLES READ AS WHEN THE CALL BEGINS. Each datum BY PROGRAM (the guide's laid-datum.mjs) off the statement by which the dump's own 'gosem.cut.vars' lays the variable. In a bare row this is a premise. The card (YtkffejommncinaaDoorCards.lean) ties it to the program's text. -/
def laid_unicode_utf8_acceptRanges {H : Type} : DataW H := .agg [.agg [.lit (.int .u8 128), .lit (.int .u8 191)], .agg [.lit (.int .u8 160), .lit (.int .u8 191)], .agg [.lit (.int .u8 128), .lit (.int .u8 159)], .agg [.lit (.int .u8 144), .lit (.int .u8 191)], .agg [.lit (.int .u8 128), .lit (.int .u8 143)], .agg [.lit (.int .u8 0), .lit (.int .u8 0)], .agg [.lit (.int .u8 0), .lit (.int .u8 0)], .agg [.lit (.int .u8 0), .lit (.int .u8 0)], .agg [.lit (.int .u8 0), .lit (.int .u8 0)], .agg [.lit (.int .u8 0), .lit (.int .u8 0)], .agg [.lit (.int .u8 0), .lit (.int .u8 0)], .agg [.lit (.int .u8 0), .lit (.int .u8 0)], .agg [.lit (.int .u8 0), .lit (.int .u8 0)], .agg [.lit (.int .u8 0), .lit (.int .u8 0)], .agg [.lit (.int .u8 0), .lit (.int .u8 0)], .agg [.lit (.int .u8 0), .lit (.int .u8 0)]]
/-- One of Go's own tables, pinned by name: the form's constant. -/
def laid_unicode_utf8_first : DataW Unit := Go.Pinned.utf8First

/-- 'laws.FnTreeDropFull': WHATEVER THE INPUT: true; the input reads as it did. -/
def fnTreeDropFullSpec : ChangeSpec := { name := "fnTreeDropFull", fn := fun _ => fun
  | [d] => { results := [.lit (.bool true)], args := [d] }
  | _ => none }
def fnTreeDropFullRow : OpenClaim := { program := "ytkffejommncinaadoor", sum := "4e771eb7f725c3bd004421d11b2085d7befdf8faeeee0ddffe233bd8afcfb19d", func := "loop.example/snapshotfiles/laws.FnTreeDropFull", spec := "fnTreeDropFull", inPlace := ["internal/bytealg.CountString", "internal/bytealg.IndexByteString", "internal/bytealg.IndexString", "slices.overlaps[*loop.example/snapshotfiles/impl.node]"], unfollowed := true, recurses := true, named := ["unicode/utf8.first", "unicode/utf8.acceptRanges", "internal/bytealg.MaxLen"], apart := false, laid := [("unicode/utf8.acceptRanges", laid_unicode_utf8_acceptRanges), ("unicode/utf8.first", laid_unicode_utf8_first)] }
def FnTreeDropFullSaid : Prop := fnTreeDropFullRow.holds Tryd.pinned (OpenSpec.ofChange fnTreeDropFullSpec)

/-- ITS FALSE NEIGHBOUR: 'it returns false'. Refute it at one input. -/
def fnTreeDropFullWrong : ChangeSpec := { name := "fnTreeDropFull", fn := fun _ => fun
  | [d] => { results := [.lit (.bool false)], args := [d] }
  | _ => none }
def FnTreeDropFullWrongFalsely : Prop := fnTreeDropFullRow.holds Tryd.pinned (OpenSpec.ofChange fnTreeDropFullWrong)

/-- 'laws.FnTreePutDir': WHATEVER THE INPUT: true; the input reads as it did. -/
def fnTreePutDirSpec : ChangeSpec := { name := "fnTreePutDir", fn := fun _ => fun
  | [d] => { results := [.lit (.bool true)], args := [d] }
  | _ => none }
def fnTreePutDirRow : OpenClaim := { program := "ytkffejommncinaadoor", sum := "4e771eb7f725c3bd004421d11b2085d7befdf8faeeee0ddffe233bd8afcfb19d", func := "loop.example/snapshotfiles/laws.FnTreePutDir", spec := "fnTreePutDir", inPlace := ["internal/bytealg.CountString", "internal/bytealg.IndexByteString", "internal/bytealg.IndexString", "slices.overlaps[*loop.example/snapshotfiles/impl.node]"], unfollowed := true, recurses := true, named := ["unicode/utf8.first", "unicode/utf8.acceptRanges", "internal/bytealg.MaxLen"], apart := false, laid := [("unicode/utf8.acceptRanges", laid_unicode_utf8_acceptRanges), ("unicode/utf8.first", laid_unicode_utf8_first)] }
def FnTreePutDirSaid : Prop := fnTreePutDirRow.holds Tryd.pinned (OpenSpec.ofChange fnTreePutDirSpec)

/-- ITS FALSE NEIGHBOUR: 'it returns false'. Refute it at one input. -/
def fnTreePutDirWrong : ChangeSpec := { name := "fnTreePutDir", fn := fun _ => fun
  | [d] => { results := [.lit (.bool false)], args := [d] }
  | _ => none }
def FnTreePutDirWrongFalsely : Prop := fnTreePutDirRow.holds Tryd.pinned (OpenSpec.ofChange fnTreePutDirWrong)

/-- 'laws.FnTreeDrop': WHATEVER THE INPUT: true; the input reads as it did. -/
def fnTreeDropSpec : ChangeSpec := { name := "fnTreeDrop", fn := fun _ => fun
  | [d] => { results := [.lit (.bool true)], args := [d] }
  | _ => none }
def fnTreeDropRow : OpenClaim := { program := "ytkffejommncinaadoor", sum := "4e771eb7f725c3bd004421d11b2085d7befdf8faeeee0ddffe233bd8afcfb19d", func := "loop.example/snapshotfiles/laws.FnTreeDrop", spec := "fnTreeDrop", inPlace := ["internal/bytealg.CountString", "internal/bytealg.IndexByteString", "internal/bytealg.IndexString", "slices.overlaps[*loop.example/snapshotfiles/impl.node]"], unfollowed := true, recurses := true, named := ["unicode/utf8.first", "unicode/utf8.acceptRanges", "internal/bytealg.MaxLen"], apart := false, laid := [("unicode/utf8.acceptRanges", laid_unicode_utf8_acceptRanges), ("unicode/utf8.first", laid_unicode_utf8_first)] }
def FnTreeDropSaid : Prop := fnTreeDropRow.holds Tryd.pinned (OpenSpec.ofChange fnTreeDropSpec)

/-- ITS FALSE NEIGHBOUR: 'it returns false'. Refute it at one input. -/
def fnTreeDropWrong : ChangeSpec := { name := "fnTreeDrop", fn := fun _ => fun
  | [d] => { results := [.lit (.bool false)], args := [d] }
  | _ => none }
def FnTreeDropWrongFalsely : Prop := fnTreeDropRow.holds Tryd.pinned (OpenSpec.ofChange fnTreeDropWrong)

/-- 'laws.FnTreePut': WHATEVER THE INPUT: true; the input reads as it did. -/
def fnTreePutSpec : ChangeSpec := { name := "fnTreePut", fn := fun _ => fun
  | [d] => { results := [.lit (.bool true)], args := [d] }
  | _ => none }
def fnTreePutRow : OpenClaim := { program := "ytkffejommncinaadoor", sum := "4e771eb7f725c3bd004421d11b2085d7befdf8faeeee0ddffe233bd8afcfb19d", func := "loop.example/snapshotfiles/laws.FnTreePut", spec := "fnTreePut", inPlace := ["internal/bytealg.CountString", "internal/bytealg.IndexByteString", "internal/bytealg.IndexString", "slices.overlaps[*loop.example/snapshotfiles/impl.node]"], unfollowed := true, recurses := true, named := ["unicode/utf8.first", "unicode/utf8.acceptRanges", "internal/bytealg.MaxLen"], apart := false, laid := [("unicode/utf8.acceptRanges", laid_unicode_utf8_acceptRanges), ("unicode/utf8.first", laid_unicode_utf8_first)] }
def FnTreePutSaid : Prop := fnTreePutRow.holds Tryd.pinned (OpenSpec.ofChange fnTreePutSpec)

/-- ITS FALSE NEIGHBOUR: 'it returns false'. Refute it at one input. -/
def fnTreePutWrong : ChangeSpec := { name := "fnTreePut", fn := fun _ => fun
  | [d] => { results := [.lit (.bool false)], args := [d] }
  | _ => none }
def FnTreePutWrongFalsely : Prop := fnTreePutRow.holds Tryd.pinned (OpenSpec.ofChange fnTreePutWrong)

/-- 'laws.FnExactTreeDrop': WHATEVER THE INPUT: true; the input reads as it did. -/
def fnExactTreeDropSpec : ChangeSpec := { name := "fnExactTreeDrop", fn := fun _ => fun
  | [d1, d2] => { results := [.lit (.bool true)], args := [d1, d2] }
  | _ => none }
def fnExactTreeDropRow : OpenClaim := { program := "ytkffejommncinaadoor", sum := "4e771eb7f725c3bd004421d11b2085d7befdf8faeeee0ddffe233bd8afcfb19d", func := "loop.example/snapshotfiles/laws.FnExactTreeDrop", spec := "fnExactTreeDrop", inPlace := ["internal/bytealg.CountString", "internal/bytealg.IndexByteString", "internal/bytealg.IndexString", "slices.overlaps[*loop.example/snapshotfiles/impl.node]"], unfollowed := true, recurses := true, named := ["unicode/utf8.first", "unicode/utf8.acceptRanges", "internal/bytealg.MaxLen"], apart := false, laid := [("unicode/utf8.acceptRanges", laid_unicode_utf8_acceptRanges), ("unicode/utf8.first", laid_unicode_utf8_first)] }
def FnExactTreeDropSaid : Prop := fnExactTreeDropRow.holds Tryd.pinned (OpenSpec.ofChange fnExactTreeDropSpec)

/-- ITS FALSE NEIGHBOUR: 'it returns false'. Refute it at one input. -/
def fnExactTreeDropWrong : ChangeSpec := { name := "fnExactTreeDrop", fn := fun _ => fun
  | [d1, d2] => { results := [.lit (.bool false)], args := [d1, d2] }
  | _ => none }
def FnExactTreeDropWrongFalsely : Prop := fnExactTreeDropRow.holds Tryd.pinned (OpenSpec.ofChange fnExactTreeDropWrong)

/-- 'laws.FnTreePutDrop': WHATEVER THE INPUT: true; the input reads as it did. -/
def fnTreePutDropSpec : ChangeSpec := { name := "fnTreePutDrop", fn := fun _ => fun
  | [d] => { results := [.lit (.bool true)], args := [d] }
  | _ => none }
def fnTreePutDropRow : OpenClaim := { program := "ytkffejommncinaadoor", sum := "4e771eb7f725c3bd004421d11b2085d7befdf8faeeee0ddffe233bd8afcfb19d", func := "loop.example/snapshotfiles/laws.FnTreePutDrop", spec := "fnTreePutDrop", inPlace := ["internal/bytealg.CountString", "internal/bytealg.IndexByteString", "internal/bytealg.IndexString", "slices.overlaps[*loop.example/snapshotfiles/impl.node]"], unfollowed := true, recurses := true, named := ["unicode/utf8.first", "unicode/utf8.acceptRanges", "internal/bytealg.MaxLen"], apart := false, laid := [("unicode/utf8.acceptRanges", laid_unicode_utf8_acceptRanges), ("unicode/utf8.first", laid_unicode_utf8_first)] }
def FnTreePutDropSaid : Prop := fnTreePutDropRow.holds Tryd.pinned (OpenSpec.ofChange fnTreePutDropSpec)

/-- ITS FALSE NEIGHBOUR: 'it returns false'. Refute it at one input. -/
def fnTreePutDropWrong : ChangeSpec := { name := "fnTreePutDrop", fn := fun _ => fun
  | [d] => { results := [.lit (.bool false)], args := [d] }
  | _ => none }
def FnTreePutDropWrongFalsely : Prop := fnTreePutDropRow.holds Tryd.pinned (OpenSpec.ofChange fnTreePutDropWrong)

/-- 'laws.FnExactTreePut': WHATEVER THE INPUT: true; the input reads as it did. -/
def fnExactTreePutSpec : ChangeSpec := { name := "fnExactTreePut", fn := fun _ => fun
  | [d1, d2] => { results := [.lit (.bool true)], args := [d1, d2] }
  | _ => none }
def fnExactTreePutRow : OpenClaim := { program := "ytkffejommncinaadoor", sum := "4e771eb7f725c3bd004421d11b2085d7befdf8faeeee0ddffe233bd8afcfb19d", func := "loop.example/snapshotfiles/laws.FnExactTreePut", spec := "fnExactTreePut", inPlace := ["internal/bytealg.CountString", "internal/bytealg.IndexByteString", "internal/bytealg.IndexString", "slices.overlaps[*loop.example/snapshotfiles/impl.node]"], unfollowed := true, recurses := true, named := ["unicode/utf8.first", "unicode/utf8.acceptRanges", "internal/bytealg.MaxLen"], apart := false, laid := [("unicode/utf8.acceptRanges", laid_unicode_utf8_acceptRanges), ("unicode/utf8.first", laid_unicode_utf8_first)] }
def FnExactTreePutSaid : Prop := fnExactTreePutRow.holds Tryd.pinned (OpenSpec.ofChange fnExactTreePutSpec)

/-- ITS FALSE NEIGHBOUR: 'it returns false'. Refute it at one input. -/
def fnExactTreePutWrong : ChangeSpec := { name := "fnExactTreePut", fn := fun _ => fun
  | [d1, d2] => { results := [.lit (.bool false)], args := [d1, d2] }
  | _ => none }
def FnExactTreePutWrongFalsely : Prop := fnExactTreePutRow.holds Tryd.pinned (OpenSpec.ofChange fnExactTreePutWrong)

/-- 'laws.FnChangesOrder': WHATEVER THE INPUT: true; the input reads as it did. -/
def fnChangesOrderSpec : ChangeSpec := { name := "fnChangesOrder", fn := fun _ => fun
  | [d] => { results := [.lit (.bool true)], args := [d] }
  | _ => none }
def fnChangesOrderRow : OpenClaim := { program := "ytkffejommncinaadoor", sum := "4e771eb7f725c3bd004421d11b2085d7befdf8faeeee0ddffe233bd8afcfb19d", func := "loop.example/snapshotfiles/laws.FnChangesOrder", spec := "fnChangesOrder", inPlace := ["internal/bytealg.CountString", "internal/bytealg.IndexByteString", "internal/bytealg.IndexString", "slices.overlaps[*loop.example/snapshotfiles/impl.node]"], unfollowed := true, recurses := true, named := ["unicode/utf8.first", "unicode/utf8.acceptRanges", "internal/bytealg.MaxLen"], apart := false, laid := [("unicode/utf8.acceptRanges", laid_unicode_utf8_acceptRanges), ("unicode/utf8.first", laid_unicode_utf8_first)] }
def FnChangesOrderSaid : Prop := fnChangesOrderRow.holds Tryd.pinned (OpenSpec.ofChange fnChangesOrderSpec)

/-- ITS FALSE NEIGHBOUR: 'it returns false'. Refute it at one input. -/
def fnChangesOrderWrong : ChangeSpec := { name := "fnChangesOrder", fn := fun _ => fun
  | [d] => { results := [.lit (.bool false)], args := [d] }
  | _ => none }
def FnChangesOrderWrongFalsely : Prop := fnChangesOrderRow.holds Tryd.pinned (OpenSpec.ofChange fnChangesOrderWrong)

/- THE SECOND FORM. 'bulk': how many values and letters a reading holds, each counted each time it is reached (what is shared counts as often as it is met; a slice's spare places count too). A statement '..UptoSaid' is the law's where the arguments, and the package variables that the reading takes, are together of bulk at most 1048576: NARROWER than '..Said'. Prove '..Said' where nothing that the law and all that it calls make is longer than what came in: it says more and counts as full. Else prove '..UptoSaid'. A law counts once. -/
mutual
def uptoBulk {H : Type} : DataW H → Nat
  | .lit (.string bytes) => bytes.length + 1
  | .lit _ => 1
  | .nil => 1
  | .ptr d => uptoBulk d + 1
  | .slice elems spare => uptoBulkAll elems + uptoBulkAll spare + 1
  | .agg parts => uptoBulkAll parts + 1
  | .iface _ d => uptoBulk d + 1
  | .map entries => uptoBulkEntries entries + 1
  | .held _ => 1
def uptoBulkAll {H : Type} : List (DataW H) → Nat
  | [] => 0
  | d :: r => uptoBulk d + uptoBulkAll r
def uptoBulkEntries {H : Type} : List (Lit × DataW H) → Nat
  | [] => 0
  | x :: r => uptoBulkEntry x + uptoBulkEntries r
def uptoBulkEntry {H : Type} : Lit × DataW H → Nat
  | (.string bytes, d) => bytes.length + uptoBulk d + 1
  | (_, d) => uptoBulk d + 1
 end
def uptoSmall : (H : Type) → List (DataW H) → Bool := fun _ ds => decide (uptoBulkAll ds ≤ 1048576)
def OpenSpec.upto (s : _root_.Go.ChangeSpec) : _root_.Go.OpenSpec := { _root_.Go.OpenSpec.ofChange s with cond := some uptoSmall }

/-- 'laws.FnTreeDropFull', WHERE WHAT IT READS IS OF BULK AT MOST 1048576: true; the input reads as it did. -/
def fnTreeDropFullUptoRow : OpenClaim := { program := "ytkffejommncinaadoor", sum := "4e771eb7f725c3bd004421d11b2085d7befdf8faeeee0ddffe233bd8afcfb19d", func := "loop.example/snapshotfiles/laws.FnTreeDropFull", spec := "fnTreeDropFull", inPlace := ["internal/bytealg.CountString", "internal/bytealg.IndexByteString", "internal/bytealg.IndexString", "slices.overlaps[*loop.example/snapshotfiles/impl.node]"], unfollowed := true, recurses := true, named := ["unicode/utf8.first", "unicode/utf8.acceptRanges", "internal/bytealg.MaxLen"], apart := false, laid := [("unicode/utf8.acceptRanges", laid_unicode_utf8_acceptRanges), ("unicode/utf8.first", laid_unicode_utf8_first)], narrowed := true }
def FnTreeDropFullUptoSaid : Prop := fnTreeDropFullUptoRow.holds Tryd.pinned (OpenSpec.upto fnTreeDropFullSpec)

/-- 'laws.FnTreePutDir', WHERE WHAT IT READS IS OF BULK AT MOST 1048576: true; the input reads as it did. -/
def fnTreePutDirUptoRow : OpenClaim := { program := "ytkffejommncinaadoor", sum := "4e771eb7f725c3bd004421d11b2085d7befdf8faeeee0ddffe233bd8afcfb19d", func := "loop.example/snapshotfiles/laws.FnTreePutDir", spec := "fnTreePutDir", inPlace := ["internal/bytealg.CountString", "internal/bytealg.IndexByteString", "internal/bytealg.IndexString", "slices.overlaps[*loop.example/snapshotfiles/impl.node]"], unfollowed := true, recurses := true, named := ["unicode/utf8.first", "unicode/utf8.acceptRanges", "internal/bytealg.MaxLen"], apart := false, laid := [("unicode/utf8.acceptRanges", laid_unicode_utf8_acceptRanges), ("unicode/utf8.first", laid_unicode_utf8_first)], narrowed := true }
def FnTreePutDirUptoSaid : Prop := fnTreePutDirUptoRow.holds Tryd.pinned (OpenSpec.upto fnTreePutDirSpec)

/-- 'laws.FnTreeDrop', WHERE WHAT IT READS IS OF BULK AT MOST 1048576: true; the input reads as it did. -/
def fnTreeDropUptoRow : OpenClaim := { program := "ytkffejommncinaadoor", sum := "4e771eb7f725c3bd004421d11b2085d7befdf8faeeee0ddffe233bd8afcfb19d", func := "loop.example/snapshotfiles/laws.FnTreeDrop", spec := "fnTreeDrop", inPlace := ["internal/bytealg.CountString", "internal/bytealg.IndexByteString", "internal/bytealg.IndexString", "slices.overlaps[*loop.example/snapshotfiles/impl.node]"], unfollowed := true, recurses := true, named := ["unicode/utf8.first", "unicode/utf8.acceptRanges", "internal/bytealg.MaxLen"], apart := false, laid := [("unicode/utf8.acceptRanges", laid_unicode_utf8_acceptRanges), ("unicode/utf8.first", laid_unicode_utf8_first)], narrowed := true }
def FnTreeDropUptoSaid : Prop := fnTreeDropUptoRow.holds Tryd.pinned (OpenSpec.upto fnTreeDropSpec)

/-- 'laws.FnTreePut', WHERE WHAT IT READS IS OF BULK AT MOST 1048576: true; the input reads as it did. -/
def fnTreePutUptoRow : OpenClaim := { program := "ytkffejommncinaadoor", sum := "4e771eb7f725c3bd004421d11b2085d7befdf8faeeee0ddffe233bd8afcfb19d", func := "loop.example/snapshotfiles/laws.FnTreePut", spec := "fnTreePut", inPlace := ["internal/bytealg.CountString", "internal/bytealg.IndexByteString", "internal/bytealg.IndexString", "slices.overlaps[*loop.example/snapshotfiles/impl.node]"], unfollowed := true, recurses := true, named := ["unicode/utf8.first", "unicode/utf8.acceptRanges", "internal/bytealg.MaxLen"], apart := false, laid := [("unicode/utf8.acceptRanges", laid_unicode_utf8_acceptRanges), ("unicode/utf8.first", laid_unicode_utf8_first)], narrowed := true }
def FnTreePutUptoSaid : Prop := fnTreePutUptoRow.holds Tryd.pinned (OpenSpec.upto fnTreePutSpec)

/-- 'laws.FnExactTreeDrop', WHERE WHAT IT READS IS OF BULK AT MOST 1048576: true; the input reads as it did. -/
def fnExactTreeDropUptoRow : OpenClaim := { program := "ytkffejommncinaadoor", sum := "4e771eb7f725c3bd004421d11b2085d7befdf8faeeee0ddffe233bd8afcfb19d", func := "loop.example/snapshotfiles/laws.FnExactTreeDrop", spec := "fnExactTreeDrop", inPlace := ["internal/bytealg.CountString", "internal/bytealg.IndexByteString", "internal/bytealg.IndexString", "slices.overlaps[*loop.example/snapshotfiles/impl.node]"], unfollowed := true, recurses := true, named := ["unicode/utf8.first", "unicode/utf8.acceptRanges", "internal/bytealg.MaxLen"], apart := false, laid := [("unicode/utf8.acceptRanges", laid_unicode_utf8_acceptRanges), ("unicode/utf8.first", laid_unicode_utf8_first)], narrowed := true }
def FnExactTreeDropUptoSaid : Prop := fnExactTreeDropUptoRow.holds Tryd.pinned (OpenSpec.upto fnExactTreeDropSpec)

/-- 'laws.FnTreePutDrop', WHERE WHAT IT READS IS OF BULK AT MOST 1048576: true; the input reads as it did. -/
def fnTreePutDropUptoRow : OpenClaim := { program := "ytkffejommncinaadoor", sum := "4e771eb7f725c3bd004421d11b2085d7befdf8faeeee0ddffe233bd8afcfb19d", func := "loop.example/snapshotfiles/laws.FnTreePutDrop", spec := "fnTreePutDrop", inPlace := ["internal/bytealg.CountString", "internal/bytealg.IndexByteString", "internal/bytealg.IndexString", "slices.overlaps[*loop.example/snapshotfiles/impl.node]"], unfollowed := true, recurses := true, named := ["unicode/utf8.first", "unicode/utf8.acceptRanges", "internal/bytealg.MaxLen"], apart := false, laid := [("unicode/utf8.acceptRanges", laid_unicode_utf8_acceptRanges), ("unicode/utf8.first", laid_unicode_utf8_first)], narrowed := true }
def FnTreePutDropUptoSaid : Prop := fnTreePutDropUptoRow.holds Tryd.pinned (OpenSpec.upto fnTreePutDropSpec)

/-- 'laws.FnExactTreePut', WHERE WHAT IT READS IS OF BULK AT MOST 1048576: true; the input reads as it did. -/
def fnExactTreePutUptoRow : OpenClaim := { program := "ytkffejommncinaadoor", sum := "4e771eb7f725c3bd004421d11b2085d7befdf8faeeee0ddffe233bd8afcfb19d", func := "loop.example/snapshotfiles/laws.FnExactTreePut", spec := "fnExactTreePut", inPlace := ["internal/bytealg.CountString", "internal/bytealg.IndexByteString", "internal/bytealg.IndexString", "slices.overlaps[*loop.example/snapshotfiles/impl.node]"], unfollowed := true, recurses := true, named := ["unicode/utf8.first", "unicode/utf8.acceptRanges", "internal/bytealg.MaxLen"], apart := false, laid := [("unicode/utf8.acceptRanges", laid_unicode_utf8_acceptRanges), ("unicode/utf8.first", laid_unicode_utf8_first)], narrowed := true }
def FnExactTreePutUptoSaid : Prop := fnExactTreePutUptoRow.holds Tryd.pinned (OpenSpec.upto fnExactTreePutSpec)

/-- 'laws.FnChangesOrder', WHERE WHAT IT READS IS OF BULK AT MOST 1048576: true; the input reads as it did. -/
def fnChangesOrderUptoRow : OpenClaim := { program := "ytkffejommncinaadoor", sum := "4e771eb7f725c3bd004421d11b2085d7befdf8faeeee0ddffe233bd8afcfb19d", func := "loop.example/snapshotfiles/laws.FnChangesOrder", spec := "fnChangesOrder", inPlace := ["internal/bytealg.CountString", "internal/bytealg.IndexByteString", "internal/bytealg.IndexString", "slices.overlaps[*loop.example/snapshotfiles/impl.node]"], unfollowed := true, recurses := true, named := ["unicode/utf8.first", "unicode/utf8.acceptRanges", "internal/bytealg.MaxLen"], apart := false, laid := [("unicode/utf8.acceptRanges", laid_unicode_utf8_acceptRanges), ("unicode/utf8.first", laid_unicode_utf8_first)], narrowed := true }
def FnChangesOrderUptoSaid : Prop := fnChangesOrderUptoRow.holds Tryd.pinned (OpenSpec.upto fnChangesOrderSpec)

end Rows
end Go.Proofs.YtkffejommncinaaDoor
