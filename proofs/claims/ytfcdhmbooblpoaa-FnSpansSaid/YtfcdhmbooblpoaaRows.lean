/-
  No cell of these rows narrows 'for every input' (looked for: loops, veiled, ifaces, maps, wideKeys, modest, calm, conditions, laid).
  DERIVED. THE GIVEN ROWS OF THIS SEAT. 13 by the template 'for every input the law returns true; each argument reads behind the call as it read before'; 0 by the template 'total and deterministic' (their statements: YtfcdhmbooblpoaaTotals.lean).
  GIVEN WITH THE SEED: the statements are not yours to turn. If you find one false, say at which input.
  Laid BY PROGRAM, IN A SANDBOX (cutbox-rows.mjs): the forced cells as the released guide's own fill.sh prints them over the translation 91fbe5ad4d2a6cee… (all of the seat's roots in one cut). By AI agents, Wed Nov 11 2026. No macro, syntax, notation, axiom, sorry.
-/
import Derived.Test.YtfcdhmbooblpoaaChecked
import GoSem.Claim
import GoSem.ClaimJoined
import GoSem.ClaimMapViews
import Derived.JoinedTies
import Derived.KernelRfl
namespace Go.Proofs.Ytfcdhmbooblpoaa
/- THE CELL 'sum', in the pinned program and in every row, IS THE sha256 OF THE DUMP (.gsa) THAT YtfcdhmbooblpoaaProg.lean LOADS. Nothing in Lean hashes anything: it is a label: what it is worth is what the hold of that sum in a sandbox is worth. -/
noncomputable def Try.pinned : Pinned := { name := "ytfcdhmbooblpoaa", sum := "91fbe5ad4d2a6ceeb9d0ff883e75c288a7f30e957c6a2a3f6ff8782389de59e7", checked := Try.checked }
namespace Rows
def none {H : Type} : Left H := { results := [], args := [] }

/-- 'laws.FnExactTimesValid': WHATEVER THE INPUT: true; the input reads as it did. -/
def fnExactTimesValidSpec : ChangeSpec := { name := "fnExactTimesValid", fn := fun _ => fun
  | [d] => { results := [.lit (.bool true)], args := [d] }
  | _ => none }
def fnExactTimesValidRow : OpenClaim := { program := "ytfcdhmbooblpoaa", sum := "91fbe5ad4d2a6ceeb9d0ff883e75c288a7f30e957c6a2a3f6ff8782389de59e7", func := "loop.example/snapshotfiles/laws.FnExactTimesValid", spec := "fnExactTimesValid", apart := false }
def FnExactTimesValidSaid : Prop := fnExactTimesValidRow.holds Try.pinned (OpenSpec.ofChange fnExactTimesValidSpec)

/-- ITS FALSE NEIGHBOUR: 'it returns false'. Refute it at one input. -/
def fnExactTimesValidWrong : ChangeSpec := { name := "fnExactTimesValid", fn := fun _ => fun
  | [d] => { results := [.lit (.bool false)], args := [d] }
  | _ => none }
def FnExactTimesValidWrongFalsely : Prop := fnExactTimesValidRow.holds Try.pinned (OpenSpec.ofChange fnExactTimesValidWrong)

/-- 'laws.FnTimesPart': WHATEVER THE INPUT: true; the input reads as it did. -/
def fnTimesPartSpec : ChangeSpec := { name := "fnTimesPart", fn := fun _ => fun
  | [d1, d2] => { results := [.lit (.bool true)], args := [d1, d2] }
  | _ => none }
def fnTimesPartRow : OpenClaim := { program := "ytfcdhmbooblpoaa", sum := "91fbe5ad4d2a6ceeb9d0ff883e75c288a7f30e957c6a2a3f6ff8782389de59e7", func := "loop.example/snapshotfiles/laws.FnTimesPart", spec := "fnTimesPart", apart := false }
def FnTimesPartSaid : Prop := fnTimesPartRow.holds Try.pinned (OpenSpec.ofChange fnTimesPartSpec)

/-- ITS FALSE NEIGHBOUR: 'it returns false'. Refute it at one input. -/
def fnTimesPartWrong : ChangeSpec := { name := "fnTimesPart", fn := fun _ => fun
  | [d1, d2] => { results := [.lit (.bool false)], args := [d1, d2] }
  | _ => none }
def FnTimesPartWrongFalsely : Prop := fnTimesPartRow.holds Try.pinned (OpenSpec.ofChange fnTimesPartWrong)

/-- 'laws.FnExactKeepNewest': WHATEVER THE INPUT: true; the input reads as it did. -/
def fnExactKeepNewestSpec : ChangeSpec := { name := "fnExactKeepNewest", fn := fun _ => fun
  | [d1, d2] => { results := [.lit (.bool true)], args := [d1, d2] }
  | _ => none }
def fnExactKeepNewestRow : OpenClaim := { program := "ytfcdhmbooblpoaa", sum := "91fbe5ad4d2a6ceeb9d0ff883e75c288a7f30e957c6a2a3f6ff8782389de59e7", func := "loop.example/snapshotfiles/laws.FnExactKeepNewest", spec := "fnExactKeepNewest", unfollowed := true, recurses := true, apart := false }
def FnExactKeepNewestSaid : Prop := fnExactKeepNewestRow.holds Try.pinned (OpenSpec.ofChange fnExactKeepNewestSpec)

/-- ITS FALSE NEIGHBOUR: 'it returns false'. Refute it at one input. -/
def fnExactKeepNewestWrong : ChangeSpec := { name := "fnExactKeepNewest", fn := fun _ => fun
  | [d1, d2] => { results := [.lit (.bool false)], args := [d1, d2] }
  | _ => none }
def FnExactKeepNewestWrongFalsely : Prop := fnExactKeepNewestRow.holds Try.pinned (OpenSpec.ofChange fnExactKeepNewestWrong)

/-- 'laws.FnExactKeepSpans': WHATEVER THE INPUT: true; the input reads as it did. -/
def fnExactKeepSpansSpec : ChangeSpec := { name := "fnExactKeepSpans", fn := fun _ => fun
  | [d1, d2, d3] => { results := [.lit (.bool true)], args := [d1, d2, d3] }
  | _ => none }
def fnExactKeepSpansRow : OpenClaim := { program := "ytfcdhmbooblpoaa", sum := "91fbe5ad4d2a6ceeb9d0ff883e75c288a7f30e957c6a2a3f6ff8782389de59e7", func := "loop.example/snapshotfiles/laws.FnExactKeepSpans", spec := "fnExactKeepSpans", unfollowed := true, recurses := true, apart := false }
def FnExactKeepSpansSaid : Prop := fnExactKeepSpansRow.holds Try.pinned (OpenSpec.ofChange fnExactKeepSpansSpec)

/-- ITS FALSE NEIGHBOUR: 'it returns false'. Refute it at one input. -/
def fnExactKeepSpansWrong : ChangeSpec := { name := "fnExactKeepSpans", fn := fun _ => fun
  | [d1, d2, d3] => { results := [.lit (.bool false)], args := [d1, d2, d3] }
  | _ => none }
def FnExactKeepSpansWrongFalsely : Prop := fnExactKeepSpansRow.holds Try.pinned (OpenSpec.ofChange fnExactKeepSpansWrong)

/-- 'laws.FnNewest': WHATEVER THE INPUT: true; the input reads as it did. -/
def fnNewestSpec : ChangeSpec := { name := "fnNewest", fn := fun _ => fun
  | [d] => { results := [.lit (.bool true)], args := [d] }
  | _ => none }
def fnNewestRow : OpenClaim := { program := "ytfcdhmbooblpoaa", sum := "91fbe5ad4d2a6ceeb9d0ff883e75c288a7f30e957c6a2a3f6ff8782389de59e7", func := "loop.example/snapshotfiles/laws.FnNewest", spec := "fnNewest", unfollowed := true, recurses := true, apart := false }
def FnNewestSaid : Prop := fnNewestRow.holds Try.pinned (OpenSpec.ofChange fnNewestSpec)

/-- ITS FALSE NEIGHBOUR: 'it returns false'. Refute it at one input. -/
def fnNewestWrong : ChangeSpec := { name := "fnNewest", fn := fun _ => fun
  | [d] => { results := [.lit (.bool false)], args := [d] }
  | _ => none }
def FnNewestWrongFalsely : Prop := fnNewestRow.holds Try.pinned (OpenSpec.ofChange fnNewestWrong)

/-- 'laws.FnNewestMore': WHATEVER THE INPUT: true; the input reads as it did. -/
def fnNewestMoreSpec : ChangeSpec := { name := "fnNewestMore", fn := fun _ => fun
  | [d] => { results := [.lit (.bool true)], args := [d] }
  | _ => none }
def fnNewestMoreRow : OpenClaim := { program := "ytfcdhmbooblpoaa", sum := "91fbe5ad4d2a6ceeb9d0ff883e75c288a7f30e957c6a2a3f6ff8782389de59e7", func := "loop.example/snapshotfiles/laws.FnNewestMore", spec := "fnNewestMore", unfollowed := true, recurses := true, apart := false }
def FnNewestMoreSaid : Prop := fnNewestMoreRow.holds Try.pinned (OpenSpec.ofChange fnNewestMoreSpec)

/-- ITS FALSE NEIGHBOUR: 'it returns false'. Refute it at one input. -/
def fnNewestMoreWrong : ChangeSpec := { name := "fnNewestMore", fn := fun _ => fun
  | [d] => { results := [.lit (.bool false)], args := [d] }
  | _ => none }
def FnNewestMoreWrongFalsely : Prop := fnNewestMoreRow.holds Try.pinned (OpenSpec.ofChange fnNewestMoreWrong)

/-- 'laws.FnSpans': WHATEVER THE INPUT: true; the input reads as it did. -/
def fnSpansSpec : ChangeSpec := { name := "fnSpans", fn := fun _ => fun
  | [d] => { results := [.lit (.bool true)], args := [d] }
  | _ => none }
def fnSpansRow : OpenClaim := { program := "ytfcdhmbooblpoaa", sum := "91fbe5ad4d2a6ceeb9d0ff883e75c288a7f30e957c6a2a3f6ff8782389de59e7", func := "loop.example/snapshotfiles/laws.FnSpans", spec := "fnSpans", unfollowed := true, recurses := true, apart := false }
def FnSpansSaid : Prop := fnSpansRow.holds Try.pinned (OpenSpec.ofChange fnSpansSpec)

/-- ITS FALSE NEIGHBOUR: 'it returns false'. Refute it at one input. -/
def fnSpansWrong : ChangeSpec := { name := "fnSpans", fn := fun _ => fun
  | [d] => { results := [.lit (.bool false)], args := [d] }
  | _ => none }
def FnSpansWrongFalsely : Prop := fnSpansRow.holds Try.pinned (OpenSpec.ofChange fnSpansWrong)

/-- 'laws.FnSpansAll': WHATEVER THE INPUT: true; the input reads as it did. -/
def fnSpansAllSpec : ChangeSpec := { name := "fnSpansAll", fn := fun _ => fun
  | [d] => { results := [.lit (.bool true)], args := [d] }
  | _ => none }
def fnSpansAllRow : OpenClaim := { program := "ytfcdhmbooblpoaa", sum := "91fbe5ad4d2a6ceeb9d0ff883e75c288a7f30e957c6a2a3f6ff8782389de59e7", func := "loop.example/snapshotfiles/laws.FnSpansAll", spec := "fnSpansAll", unfollowed := true, recurses := true, apart := false }
def FnSpansAllSaid : Prop := fnSpansAllRow.holds Try.pinned (OpenSpec.ofChange fnSpansAllSpec)

/-- ITS FALSE NEIGHBOUR: 'it returns false'. Refute it at one input. -/
def fnSpansAllWrong : ChangeSpec := { name := "fnSpansAll", fn := fun _ => fun
  | [d] => { results := [.lit (.bool false)], args := [d] }
  | _ => none }
def FnSpansAllWrongFalsely : Prop := fnSpansAllRow.holds Try.pinned (OpenSpec.ofChange fnSpansAllWrong)

/-- 'laws.FnSpansLast': WHATEVER THE INPUT: true; the input reads as it did. -/
def fnSpansLastSpec : ChangeSpec := { name := "fnSpansLast", fn := fun _ => fun
  | [d] => { results := [.lit (.bool true)], args := [d] }
  | _ => none }
def fnSpansLastRow : OpenClaim := { program := "ytfcdhmbooblpoaa", sum := "91fbe5ad4d2a6ceeb9d0ff883e75c288a7f30e957c6a2a3f6ff8782389de59e7", func := "loop.example/snapshotfiles/laws.FnSpansLast", spec := "fnSpansLast", unfollowed := true, recurses := true, apart := false }
def FnSpansLastSaid : Prop := fnSpansLastRow.holds Try.pinned (OpenSpec.ofChange fnSpansLastSpec)

/-- ITS FALSE NEIGHBOUR: 'it returns false'. Refute it at one input. -/
def fnSpansLastWrong : ChangeSpec := { name := "fnSpansLast", fn := fun _ => fun
  | [d] => { results := [.lit (.bool false)], args := [d] }
  | _ => none }
def FnSpansLastWrongFalsely : Prop := fnSpansLastRow.holds Try.pinned (OpenSpec.ofChange fnSpansLastWrong)

/-- 'laws.FnExactKeepBoth': WHATEVER THE INPUT: true; the input reads as it did. -/
def fnExactKeepBothSpec : ChangeSpec := { name := "fnExactKeepBoth", fn := fun _ => fun
  | [d1, d2] => { results := [.lit (.bool true)], args := [d1, d2] }
  | _ => none }
def fnExactKeepBothRow : OpenClaim := { program := "ytfcdhmbooblpoaa", sum := "91fbe5ad4d2a6ceeb9d0ff883e75c288a7f30e957c6a2a3f6ff8782389de59e7", func := "loop.example/snapshotfiles/laws.FnExactKeepBoth", spec := "fnExactKeepBoth", unfollowed := true, recurses := true, apart := false }
def FnExactKeepBothSaid : Prop := fnExactKeepBothRow.holds Try.pinned (OpenSpec.ofChange fnExactKeepBothSpec)

/-- ITS FALSE NEIGHBOUR: 'it returns false'. Refute it at one input. -/
def fnExactKeepBothWrong : ChangeSpec := { name := "fnExactKeepBoth", fn := fun _ => fun
  | [d1, d2] => { results := [.lit (.bool false)], args := [d1, d2] }
  | _ => none }
def FnExactKeepBothWrongFalsely : Prop := fnExactKeepBothRow.holds Try.pinned (OpenSpec.ofChange fnExactKeepBothWrong)

/-- 'laws.FnSpansOne': WHATEVER THE INPUT: true; the input reads as it did. -/
def fnSpansOneSpec : ChangeSpec := { name := "fnSpansOne", fn := fun _ => fun
  | [d] => { results := [.lit (.bool true)], args := [d] }
  | _ => none }
def fnSpansOneRow : OpenClaim := { program := "ytfcdhmbooblpoaa", sum := "91fbe5ad4d2a6ceeb9d0ff883e75c288a7f30e957c6a2a3f6ff8782389de59e7", func := "loop.example/snapshotfiles/laws.FnSpansOne", spec := "fnSpansOne", unfollowed := true, recurses := true, apart := false }
def FnSpansOneSaid : Prop := fnSpansOneRow.holds Try.pinned (OpenSpec.ofChange fnSpansOneSpec)

/-- ITS FALSE NEIGHBOUR: 'it returns false'. Refute it at one input. -/
def fnSpansOneWrong : ChangeSpec := { name := "fnSpansOne", fn := fun _ => fun
  | [d] => { results := [.lit (.bool false)], args := [d] }
  | _ => none }
def FnSpansOneWrongFalsely : Prop := fnSpansOneRow.holds Try.pinned (OpenSpec.ofChange fnSpansOneWrong)

/-- 'laws.FnBoth': WHATEVER THE INPUT: true; the input reads as it did. -/
def fnBothSpec : ChangeSpec := { name := "fnBoth", fn := fun _ => fun
  | [d] => { results := [.lit (.bool true)], args := [d] }
  | _ => none }
def fnBothRow : OpenClaim := { program := "ytfcdhmbooblpoaa", sum := "91fbe5ad4d2a6ceeb9d0ff883e75c288a7f30e957c6a2a3f6ff8782389de59e7", func := "loop.example/snapshotfiles/laws.FnBoth", spec := "fnBoth", unfollowed := true, recurses := true, apart := false }
def FnBothSaid : Prop := fnBothRow.holds Try.pinned (OpenSpec.ofChange fnBothSpec)

/-- ITS FALSE NEIGHBOUR: 'it returns false'. Refute it at one input. -/
def fnBothWrong : ChangeSpec := { name := "fnBoth", fn := fun _ => fun
  | [d] => { results := [.lit (.bool false)], args := [d] }
  | _ => none }
def FnBothWrongFalsely : Prop := fnBothRow.holds Try.pinned (OpenSpec.ofChange fnBothWrong)

/-- 'laws.FnBothSame': WHATEVER THE INPUT: true; the input reads as it did. -/
def fnBothSameSpec : ChangeSpec := { name := "fnBothSame", fn := fun _ => fun
  | [d] => { results := [.lit (.bool true)], args := [d] }
  | _ => none }
def fnBothSameRow : OpenClaim := { program := "ytfcdhmbooblpoaa", sum := "91fbe5ad4d2a6ceeb9d0ff883e75c288a7f30e957c6a2a3f6ff8782389de59e7", func := "loop.example/snapshotfiles/laws.FnBothSame", spec := "fnBothSame", unfollowed := true, recurses := true, apart := false }
def FnBothSameSaid : Prop := fnBothSameRow.holds Try.pinned (OpenSpec.ofChange fnBothSameSpec)

/-- ITS FALSE NEIGHBOUR: 'it returns false'. Refute it at one input. -/
def fnBothSameWrong : ChangeSpec := { name := "fnBothSame", fn := fun _ => fun
  | [d] => { results := [.lit (.bool false)], args := [d] }
  | _ => none }
def FnBothSameWrongFalsely : Prop := fnBothSameRow.holds Try.pinned (OpenSpec.ofChange fnBothSameWrong)

/- THE SECOND FORM. 'bulk': how many values and letters a reading holds, each counted each time it is reached (what is shared counts as often as it is met; a slice's spare places count too). A statement '..UptoSaid' is the law's where the arguments, and the package variables that the reading takes, are together of bulk at most 1048576: NARROWER than '..Said'. Prove '..Said' where nothing that the law and all that it calls make is longer than what came in: it says more and counts as full. Else prove '..UptoSaid'. A law counts once. -/
mutual
def uptoBulk {H : Type} : DataW H → Nat
  | .lit (.string bytes) => bytes.length + 1
  | .lit _ => 1
  | .nil => 1
  | .ptr d => uptoBulk d + 1
  | .slice elems spare => uptoBulkAll elems + uptoBulkAll spare + 1
  | .agg parts => uptoBulkAll parts + 1
  | .iface _ d => uptoBulk d + 1
  | .map entries => uptoBulkEntries entries + 1
  | .held _ => 1
def uptoBulkAll {H : Type} : List (DataW H) → Nat
  | [] => 0
  | d :: r => uptoBulk d + uptoBulkAll r
def uptoBulkEntries {H : Type} : List (Lit × DataW H) → Nat
  | [] => 0
  | x :: r => uptoBulkEntry x + uptoBulkEntries r
def uptoBulkEntry {H : Type} : Lit × DataW H → Nat
  | (.string bytes, d) => bytes.length + uptoBulk d + 1
  | (_, d) => uptoBulk d + 1
 end
def uptoSmall : (H : Type) → List (DataW H) → Bool := fun _ ds => decide (uptoBulkAll ds ≤ 1048576)
def OpenSpec.upto (s : _root_.Go.ChangeSpec) : _root_.Go.OpenSpec := { _root_.Go.OpenSpec.ofChange s with cond := some uptoSmall }

/-- 'laws.FnExactTimesValid', WHERE WHAT IT READS IS OF BULK AT MOST 1048576: true; the input reads as it did. -/
def fnExactTimesValidUptoRow : OpenClaim := { program := "ytfcdhmbooblpoaa", sum := "91fbe5ad4d2a6ceeb9d0ff883e75c288a7f30e957c6a2a3f6ff8782389de59e7", func := "loop.example/snapshotfiles/laws.FnExactTimesValid", spec := "fnExactTimesValid", apart := false, narrowed := true }
def FnExactTimesValidUptoSaid : Prop := fnExactTimesValidUptoRow.holds Try.pinned (OpenSpec.upto fnExactTimesValidSpec)

/-- 'laws.FnTimesPart', WHERE WHAT IT READS IS OF BULK AT MOST 1048576: true; the input reads as it did. -/
def fnTimesPartUptoRow : OpenClaim := { program := "ytfcdhmbooblpoaa", sum := "91fbe5ad4d2a6ceeb9d0ff883e75c288a7f30e957c6a2a3f6ff8782389de59e7", func := "loop.example/snapshotfiles/laws.FnTimesPart", spec := "fnTimesPart", apart := false, narrowed := true }
def FnTimesPartUptoSaid : Prop := fnTimesPartUptoRow.holds Try.pinned (OpenSpec.upto fnTimesPartSpec)

/-- 'laws.FnExactKeepNewest', WHERE WHAT IT READS IS OF BULK AT MOST 1048576: true; the input reads as it did. -/
def fnExactKeepNewestUptoRow : OpenClaim := { program := "ytfcdhmbooblpoaa", sum := "91fbe5ad4d2a6ceeb9d0ff883e75c288a7f30e957c6a2a3f6ff8782389de59e7", func := "loop.example/snapshotfiles/laws.FnExactKeepNewest", spec := "fnExactKeepNewest", unfollowed := true, recurses := true, apart := false, narrowed := true }
def FnExactKeepNewestUptoSaid : Prop := fnExactKeepNewestUptoRow.holds Try.pinned (OpenSpec.upto fnExactKeepNewestSpec)

/-- 'laws.FnExactKeepSpans', WHERE WHAT IT READS IS OF BULK AT MOST 1048576: true; the input reads as it did. -/
def fnExactKeepSpansUptoRow : OpenClaim := { program := "ytfcdhmbooblpoaa", sum := "91fbe5ad4d2a6ceeb9d0ff883e75c288a7f30e957c6a2a3f6ff8782389de59e7", func := "loop.example/snapshotfiles/laws.FnExactKeepSpans", spec := "fnExactKeepSpans", unfollowed := true, recurses := true, apart := false, narrowed := true }
def FnExactKeepSpansUptoSaid : Prop := fnExactKeepSpansUptoRow.holds Try.pinned (OpenSpec.upto fnExactKeepSpansSpec)

/-- 'laws.FnNewest', WHERE WHAT IT READS IS OF BULK AT MOST 1048576: true; the input reads as it did. -/
def fnNewestUptoRow : OpenClaim := { program := "ytfcdhmbooblpoaa", sum := "91fbe5ad4d2a6ceeb9d0ff883e75c288a7f30e957c6a2a3f6ff8782389de59e7", func := "loop.example/snapshotfiles/laws.FnNewest", spec := "fnNewest", unfollowed := true, recurses := true, apart := false, narrowed := true }
def FnNewestUptoSaid : Prop := fnNewestUptoRow.holds Try.pinned (OpenSpec.upto fnNewestSpec)

/-- 'laws.FnNewestMore', WHERE WHAT IT READS IS OF BULK AT MOST 1048576: true; the input reads as it did. -/
def fnNewestMoreUptoRow : OpenClaim := { program := "ytfcdhmbooblpoaa", sum := "91fbe5ad4d2a6ceeb9d0ff883e75c288a7f30e957c6a2a3f6ff8782389de59e7", func := "loop.example/snapshotfiles/laws.FnNewestMore", spec := "fnNewestMore", unfollowed := true, recurses := true, apart := false, narrowed := true }
def FnNewestMoreUptoSaid : Prop := fnNewestMoreUptoRow.holds Try.pinned (OpenSpec.upto fnNewestMoreSpec)

/-- 'laws.FnSpans', WHERE WHAT IT READS IS OF BULK AT MOST 1048576: true; the input reads as it did. -/
def fnSpansUptoRow : OpenClaim := { program := "ytfcdhmbooblpoaa", sum := "91fbe5ad4d2a6ceeb9d0ff883e75c288a7f30e957c6a2a3f6ff8782389de59e7", func := "loop.example/snapshotfiles/laws.FnSpans", spec := "fnSpans", unfollowed := true, recurses := true, apart := false, narrowed := true }
def FnSpansUptoSaid : Prop := fnSpansUptoRow.holds Try.pinned (OpenSpec.upto fnSpansSpec)

/-- 'laws.FnSpansAll', WHERE WHAT IT READS IS OF BULK AT MOST 1048576: true; the input reads as it did. -/
def fnSpansAllUptoRow : OpenClaim := { program := "ytfcdhmbooblpoaa", sum := "91fbe5ad4d2a6ceeb9d0ff883e75c288a7f30e957c6a2a3f6ff8782389de59e7", func := "loop.example/snapshotfiles/laws.FnSpansAll", spec := "fnSpansAll", unfollowed := true, recurses := true, apart := false, narrowed := true }
def FnSpansAllUptoSaid : Prop := fnSpansAllUptoRow.holds Try.pinned (OpenSpec.upto fnSpansAllSpec)

/-- 'laws.FnSpansLast', WHERE WHAT IT READS IS OF BULK AT MOST 1048576: true; the input reads as it did. -/
def fnSpansLastUptoRow : OpenClaim := { program := "ytfcdhmbooblpoaa", sum := "91fbe5ad4d2a6ceeb9d0ff883e75c288a7f30e957c6a2a3f6ff8782389de59e7", func := "loop.example/snapshotfiles/laws.FnSpansLast", spec := "fnSpansLast", unfollowed := true, recurses := true, apart := false, narrowed := true }
def FnSpansLastUptoSaid : Prop := fnSpansLastUptoRow.holds Try.pinned (OpenSpec.upto fnSpansLastSpec)

/-- 'laws.FnExactKeepBoth', WHERE WHAT IT READS IS OF BULK AT MOST 1048576: true; the input reads as it did. -/
def fnExactKeepBothUptoRow : OpenClaim := { program := "ytfcdhmbooblpoaa", sum := "91fbe5ad4d2a6ceeb9d0ff883e75c288a7f30e957c6a2a3f6ff8782389de59e7", func := "loop.example/snapshotfiles/laws.FnExactKeepBoth", spec := "fnExactKeepBoth", unfollowed := true, recurses := true, apart := false, narrowed := true }
def FnExactKeepBothUptoSaid : Prop := fnExactKeepBothUptoRow.holds Try.pinned (OpenSpec.upto fnExactKeepBothSpec)

/-- 'laws.FnSpansOne', WHERE WHAT IT READS IS OF BULK AT MOST 1048576: true; the input reads as it did. -/
def fnSpansOneUptoRow : OpenClaim := { program := "ytfcdhmbooblpoaa", sum := "91fbe5ad4d2a6ceeb9d0ff883e75c288a7f30e957c6a2a3f6ff8782389de59e7", func := "loop.example/snapshotfiles/laws.FnSpansOne", spec := "fnSpansOne", unfollowed := true, recurses := true, apart := false, narrowed := true }
def FnSpansOneUptoSaid : Prop := fnSpansOneUptoRow.holds Try.pinned (OpenSpec.upto fnSpansOneSpec)

/-- 'laws.FnBoth', WHERE WHAT IT READS IS OF BULK AT MOST 1048576: true; the input reads as it did. -/
def fnBothUptoRow : OpenClaim := { program := "ytfcdhmbooblpoaa", sum := "91fbe5ad4d2a6ceeb9d0ff883e75c288a7f30e957c6a2a3f6ff8782389de59e7", func := "loop.example/snapshotfiles/laws.FnBoth", spec := "fnBoth", unfollowed := true, recurses := true, apart := false, narrowed := true }
def FnBothUptoSaid : Prop := fnBothUptoRow.holds Try.pinned (OpenSpec.upto fnBothSpec)

/-- 'laws.FnBothSame', WHERE WHAT IT READS IS OF BULK AT MOST 1048576: true; the input reads as it did. -/
def fnBothSameUptoRow : OpenClaim := { program := "ytfcdhmbooblpoaa", sum := "91fbe5ad4d2a6ceeb9d0ff883e75c288a7f30e957c6a2a3f6ff8782389de59e7", func := "loop.example/snapshotfiles/laws.FnBothSame", spec := "fnBothSame", unfollowed := true, recurses := true, apart := false, narrowed := true }
def FnBothSameUptoSaid : Prop := fnBothSameUptoRow.holds Try.pinned (OpenSpec.upto fnBothSameSpec)

end Rows
end Go.Proofs.Ytfcdhmbooblpoaa
