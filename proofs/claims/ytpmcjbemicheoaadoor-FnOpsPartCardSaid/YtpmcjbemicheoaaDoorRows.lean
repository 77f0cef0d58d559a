/-
  NARROWER THAN 'FOR EVERY INPUT', by the rows' own cells (each row's printed sentence says how): FnWithinOn: laid · FnOpsPart: laid · FnExactOpsValid: laid.
  DERIVED. THE GIVEN ROWS OF THIS SEAT. 3 by the template 'for every input the law returns true; each argument reads behind the call as it read before'; 0 by the template 'total and deterministic' (their statements: YtpmcjbemicheoaaDoorTotals.lean).
  GIVEN WITH THE SEED: the statements are not yours to turn. If you find one false, say at which input.
  Laid BY PROGRAM, IN A SANDBOX (cutbox-rows.mjs): the forced cells as the released guide's own fill.sh prints them over the translation 0fc5bff82eaf9ae2… (all of the seat's roots in one cut). By AI agents, Wed Nov 11 2026. No macro, syntax, notation, axiom, sorry.
-/
import Derived.Test.YtpmcjbemicheoaaDoorChecked
import GoSem.PinnedTables
import GoSem.Claim
import GoSem.ClaimJoined
import GoSem.ClaimMapViews
import Derived.JoinedTies
import Derived.KernelRfl
namespace Go.Proofs.YtpmcjbemicheoaaDoor
/- THE CELL 'sum', in the pinned program and in every row, IS THE sha256 OF THE DUMP (.gsa) THAT YtpmcjbemicheoaaDoorProg.lean LOADS. Nothing in Lean hashes anything: it is a label: what it is worth is what the hold of that sum in a sandbox is worth. -/
noncomputable def Tryd.pinned : Pinned := { name := "ytpmcjbemicheoaadoor", sum := "0fc5bff82eaf9ae2050596a880e108c2e85ccf322dd550a53dcf4dae0f02372a", checked := Tryd.checked }
namespace Rows
def none {H : Type} : Left H := { results := [], args := [] }

/- WHAT THE LISTED PACKAGE-LEVEL VARIABLES READ AS WHEN THE CALL BEGINS. Each datum BY PROGRAM (the guide's laid-datum.mjs) off the statement by which the dump's own 'gosem.cut.vars' lays the variable. In a bare row this is a premise. The card (YtpmcjbemicheoaaDoorCards.lean) ties it to the program's text. -/
def laid_unicode_utf8_acceptRanges {H : Type} : DataW H := .agg [.agg [.lit (.int .u8 128), .lit (.int .u8 191)], .agg [.lit (.int .u8 160), .lit (.int .u8 191)], .agg [.lit (.int .u8 128), .lit (.int .u8 159)], .agg [.lit (.int .u8 144), .lit (.int .u8 191)], .agg [.lit (.int .u8 128), .lit (.int .u8 143)], .agg [.lit (.int .u8 0), .lit (.int .u8 0)], .agg [.lit (.int .u8 0), .lit (.int .u8 0)], .agg [.lit (.int .u8 0), .lit (.int .u8 0)], .agg [.lit (.int .u8 0), .lit (.int .u8 0)], .agg [.lit (.int .u8 0), .lit (.int .u8 0)], .agg [.lit (.int .u8 0), .lit (.int .u8 0)], .agg [.lit (.int .u8 0), .lit (.int .u8 0)], .agg [.lit (.int .u8 0), .lit (.int .u8 0)], .agg [.lit (.int .u8 0), .lit (.int .u8 0)], .agg [.lit (.int .u8 0), .lit (.int .u8 0)], .agg [.lit (.int .u8 0), .lit (.int .u8 0)]]
/-- One of Go's own tables, pinned by name: the form's constant. -/
def laid_unicode_utf8_first : DataW Unit := Go.Pinned.utf8First

/-- 'laws.FnWithinOn': WHATEVER THE INPUT: true; the input reads as it did. -/
def fnWithinOnSpec : ChangeSpec := { name := "fnWithinOn", fn := fun _ => fun
  | [d] => { results := [.lit (.bool true)], args := [d] }
  | _ => none }
def fnWithinOnRow : OpenClaim := { program := "ytpmcjbemicheoaadoor", sum := "0fc5bff82eaf9ae2050596a880e108c2e85ccf322dd550a53dcf4dae0f02372a", func := "loop.example/snapshotfiles/laws.FnWithinOn", spec := "fnWithinOn", inPlace := ["internal/bytealg.CountString", "internal/bytealg.IndexByteString", "internal/bytealg.IndexString"], named := ["unicode/utf8.first", "unicode/utf8.acceptRanges", "internal/bytealg.MaxLen"], apart := false, laid := [("unicode/utf8.acceptRanges", laid_unicode_utf8_acceptRanges), ("unicode/utf8.first", laid_unicode_utf8_first)] }
def FnWithinOnSaid : Prop := fnWithinOnRow.holds Tryd.pinned (OpenSpec.ofChange fnWithinOnSpec)

/-- ITS FALSE NEIGHBOUR: 'it returns false'. Refute it at one input. -/
def fnWithinOnWrong : ChangeSpec := { name := "fnWithinOn", fn := fun _ => fun
  | [d] => { results := [.lit (.bool false)], args := [d] }
  | _ => none }
def FnWithinOnWrongFalsely : Prop := fnWithinOnRow.holds Tryd.pinned (OpenSpec.ofChange fnWithinOnWrong)

/-- 'laws.FnOpsPart': WHATEVER THE INPUT: true; the input reads as it did. -/
def fnOpsPartSpec : ChangeSpec := { name := "fnOpsPart", fn := fun _ => fun
  | [d1, d2] => { results := [.lit (.bool true)], args := [d1, d2] }
  | _ => none }
def fnOpsPartRow : OpenClaim := { program := "ytpmcjbemicheoaadoor", sum := "0fc5bff82eaf9ae2050596a880e108c2e85ccf322dd550a53dcf4dae0f02372a", func := "loop.example/snapshotfiles/laws.FnOpsPart", spec := "fnOpsPart", inPlace := ["internal/bytealg.CountString", "internal/bytealg.IndexByteString", "internal/bytealg.IndexString"], named := ["unicode/utf8.first", "unicode/utf8.acceptRanges", "internal/bytealg.MaxLen"], apart := false, laid := [("unicode/utf8.acceptRanges", laid_unicode_utf8_acceptRanges), ("unicode/utf8.first", laid_unicode_utf8_first)] }
def FnOpsPartSaid : Prop := fnOpsPartRow.holds Tryd.pinned (OpenSpec.ofChange fnOpsPartSpec)

/-- ITS FALSE NEIGHBOUR: 'it returns false'. Refute it at one input. -/
def fnOpsPartWrong : ChangeSpec := { name := "fnOpsPart", fn := fun _ => fun
  | [d1, d2] => { results := [.lit (.bool false)], args := [d1, d2] }
  | _ => none }
def FnOpsPartWrongFalsely : Prop := fnOpsPartRow.holds Tryd.pinned (OpenSpec.ofChange fnOpsPartWrong)

/-- 'laws.FnExactOpsValid': WHATEVER THE INPUT: true; the input reads as it did. -/
def fnExactOpsValidSpec : ChangeSpec := { name := "fnExactOpsValid", fn := fun _ => fun
  | [d] => { results := [.lit (.bool true)], args := [d] }
  | _ => none }
def fnExactOpsValidRow : OpenClaim := { program := "ytpmcjbemicheoaadoor", sum := "0fc5bff82eaf9ae2050596a880e108c2e85ccf322dd550a53dcf4dae0f02372a", func := "loop.example/snapshotfiles/laws.FnExactOpsValid", spec := "fnExactOpsValid", inPlace := ["internal/bytealg.CountString", "internal/bytealg.IndexByteString", "internal/bytealg.IndexString"], named := ["unicode/utf8.first", "unicode/utf8.acceptRanges", "internal/bytealg.MaxLen"], apart := false, laid := [("unicode/utf8.acceptRanges", laid_unicode_utf8_acceptRanges), ("unicode/utf8.first", laid_unicode_utf8_first)] }
def FnExactOpsValidSaid : Prop := fnExactOpsValidRow.holds Tryd.pinned (OpenSpec.ofChange fnExactOpsValidSpec)

/-- ITS FALSE NEIGHBOUR: 'it returns false'. Refute it at one input. -/
def fnExactOpsValidWrong : ChangeSpec := { name := "fnExactOpsValid", fn := fun _ => fun
  | [d] => { results := [.lit (.bool false)], args := [d] }
  | _ => none }
def FnExactOpsValidWrongFalsely : Prop := fnExactOpsValidRow.holds Tryd.pinned (OpenSpec.ofChange fnExactOpsValidWrong)

/- THE SECOND FORM. 'bulk': how many values and letters a reading holds, each counted each time it is reached (what is shared counts as often as it is met; a slice's spare places count too). A statement '..UptoSaid' is the law's where the arguments, and the package variables that the reading takes, are together of bulk at most 1048576: NARROWER than '..Said'. Prove '..Said' where nothing that the law and all that it calls make is longer than what came in: it says more and counts as full. Else prove '..UptoSaid'. A law counts once. -/
mutual
def uptoBulk {H : Type} : DataW H → Nat
  | .lit (.string bytes) => bytes.length + 1
  | .lit _ => 1
  | .nil => 1
  | .ptr d => uptoBulk d + 1
  | .slice elems spare => uptoBulkAll elems + uptoBulkAll spare + 1
  | .agg parts => uptoBulkAll parts + 1
  | .iface _ d => uptoBulk d + 1
  | .map entries => uptoBulkEntries entries + 1
  | .held _ => 1
def uptoBulkAll {H : Type} : List (DataW H) → Nat
  | [] => 0
  | d :: r => uptoBulk d + uptoBulkAll r
def uptoBulkEntries {H : Type} : List (Lit × DataW H) → Nat
  | [] => 0
  | x :: r => uptoBulkEntry x + uptoBulkEntries r
def uptoBulkEntry {H : Type} : Lit × DataW H → Nat
  | (.string bytes, d) => bytes.length + uptoBulk d + 1
  | (_, d) => uptoBulk d + 1
 end
def uptoSmall : (H : Type) → List (DataW H) → Bool := fun _ ds => decide (uptoBulkAll ds ≤ 1048576)
def OpenSpec.upto (s : _root_.Go.ChangeSpec) : _root_.Go.OpenSpec := { _root_.Go.OpenSpec.ofChange s with cond := some uptoSmall }

/-- 'laws.FnWithinOn', WHERE WHAT IT READS IS OF BULK AT MOST 1048576: true; the input reads as it did. -/
def fnWithinOnUptoRow : OpenClaim := { program := "ytpmcjbemicheoaadoor", sum := "0fc5bff82eaf9ae2050596a880e108c2e85ccf322dd550a53dcf4dae0f02372a", func := "loop.example/snapshotfiles/laws.FnWithinOn", spec := "fnWithinOn", inPlace := ["internal/bytealg.CountString", "internal/bytealg.IndexByteString", "internal/bytealg.IndexString"], named := ["unicode/utf8.first", "unicode/utf8.acceptRanges", "internal/bytealg.MaxLen"], apart := false, laid := [("unicode/utf8.acceptRanges", laid_unicode_utf8_acceptRanges), ("unicode/utf8.first", laid_unicode_utf8_first)], narrowed := true }
def FnWithinOnUptoSaid : Prop := fnWithinOnUptoRow.holds Tryd.pinned (OpenSpec.upto fnWithinOnSpec)

/-- 'laws.FnOpsPart', WHERE WHAT IT READS IS OF BULK AT MOST 1048576: true; the input reads as it did. -/
def fnOpsPartUptoRow : OpenClaim := { program := "ytpmcjbemicheoaadoor", sum := "0fc5bff82eaf9ae2050596a880e108c2e85ccf322dd550a53dcf4dae0f02372a", func := "loop.example/snapshotfiles/laws.FnOpsPart", spec := "fnOpsPart", inPlace := ["internal/bytealg.CountString", "internal/bytealg.IndexByteString", "internal/bytealg.IndexString"], named := ["unicode/utf8.first", "unicode/utf8.acceptRanges", "internal/bytealg.MaxLen"], apart := false, laid := [("unicode/utf8.acceptRanges", laid_unicode_utf8_acceptRanges), ("unicode/utf8.first", laid_unicode_utf8_first)], narrowed := true }
def FnOpsPartUptoSaid : Prop := fnOpsPartUptoRow.holds Tryd.pinned (OpenSpec.upto fnOpsPartSpec)

/-- 'laws.FnExactOpsValid', WHERE WHAT IT READS IS OF BULK AT MOST 1048576: true; the input reads as it did. -/
def fnExactOpsValidUptoRow : OpenClaim := { program := "ytpmcjbemicheoaadoor", sum := "0fc5bff82eaf9ae2050596a880e108c2e85ccf322dd550a53dcf4dae0f02372a", func := "loop.example/snapshotfiles/laws.FnExactOpsValid", spec := "fnExactOpsValid", inPlace := ["internal/bytealg.CountString", "internal/bytealg.IndexByteString", "internal/bytealg.IndexString"], named := ["unicode/utf8.first", "unicode/utf8.acceptRanges", "internal/bytealg.MaxLen"], apart := false, laid := [("unicode/utf8.acceptRanges", laid_unicode_utf8_acceptRanges), ("unicode/utf8.first", laid_unicode_utf8_first)], narrowed := true }
def FnExactOpsValidUptoSaid : Prop := fnExactOpsValidUptoRow.holds Tryd.pinned (OpenSpec.upto fnExactOpsValidSpec)

end Rows
end Go.Proofs.YtpmcjbemicheoaaDoor
