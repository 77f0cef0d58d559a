/-
  No cell of these rows narrows 'for every input' (looked for: loops, veiled, ifaces, maps, wideKeys, modest, calm, conditions, laid).
  DERIVED. THE GIVEN ROWS OF THIS SEAT. 2 by the template 'for every input the law returns true; each argument reads behind the call as it read before'; 0 by the template 'total and deterministic' (their statements: YtepoaoimappcbaaTotals.lean).
  GIVEN WITH THE SEED: the statements are not yours to turn. If you find one false, say at which input.
  Laid BY PROGRAM, IN A SANDBOX (cutbox-rows.mjs): the forced cells as the released guide's own fill.sh prints them over the translation 2c4ae837c24345f2… (all of the seat's roots in one cut). By AI agents, Wed Nov 11 2026. No macro, syntax, notation, axiom, sorry.
-/
import Derived.Test.YtepoaoimappcbaaChecked
import GoSem.Claim
import GoSem.ClaimJoined
import GoSem.ClaimMapViews
import Derived.JoinedTies
import Derived.KernelRfl
namespace Go.Proofs.Ytepoaoimappcbaa
/- THE CELL 'sum', in the pinned program and in every row, IS THE sha256 OF THE DUMP (.gsa) THAT YtepoaoimappcbaaProg.lean LOADS. Nothing in Lean hashes anything: it is a label: what it is worth is what the hold of that sum in a sandbox is worth. -/
noncomputable def Try.pinned : Pinned := { name := "ytepoaoimappcbaa", sum := "2c4ae837c24345f2d3480a8370855c83cf3c83c3e95e9a2ae1d36066a69788e9", checked := Try.checked }
namespace Rows
def none {H : Type} : Left H := { results := [], args := [] }

/-- 'laws.FnExactFileCut': WHATEVER THE INPUT: true; the input reads as it did. -/
def fnExactFileCutSpec : ChangeSpec := { name := "fnExactFileCut", fn := fun _ => fun
  | [d] => { results := [.lit (.bool true)], args := [d] }
  | _ => none }
def fnExactFileCutRow : OpenClaim := { program := "ytepoaoimappcbaa", sum := "2c4ae837c24345f2d3480a8370855c83cf3c83c3e95e9a2ae1d36066a69788e9", func := "loop.example/snapshotfiles/laws.FnExactFileCut", spec := "fnExactFileCut", apart := false }
def FnExactFileCutSaid : Prop := fnExactFileCutRow.holds Try.pinned (OpenSpec.ofChange fnExactFileCutSpec)

/-- ITS FALSE NEIGHBOUR: 'it returns false'. Refute it at one input. -/
def fnExactFileCutWrong : ChangeSpec := { name := "fnExactFileCut", fn := fun _ => fun
  | [d] => { results := [.lit (.bool false)], args := [d] }
  | _ => none }
def FnExactFileCutWrongFalsely : Prop := fnExactFileCutRow.holds Try.pinned (OpenSpec.ofChange fnExactFileCutWrong)

/-- 'laws.FnFileCut': WHATEVER THE INPUT: true; the input reads as it did. -/
def fnFileCutSpec : ChangeSpec := { name := "fnFileCut", fn := fun _ => fun
  | [d] => { results := [.lit (.bool true)], args := [d] }
  | _ => none }
def fnFileCutRow : OpenClaim := { program := "ytepoaoimappcbaa", sum := "2c4ae837c24345f2d3480a8370855c83cf3c83c3e95e9a2ae1d36066a69788e9", func := "loop.example/snapshotfiles/laws.FnFileCut", spec := "fnFileCut", apart := false }
def FnFileCutSaid : Prop := fnFileCutRow.holds Try.pinned (OpenSpec.ofChange fnFileCutSpec)

/-- ITS FALSE NEIGHBOUR: 'it returns false'. Refute it at one input. -/
def fnFileCutWrong : ChangeSpec := { name := "fnFileCut", fn := fun _ => fun
  | [d] => { results := [.lit (.bool false)], args := [d] }
  | _ => none }
def FnFileCutWrongFalsely : Prop := fnFileCutRow.holds Try.pinned (OpenSpec.ofChange fnFileCutWrong)

/- THE SECOND FORM. 'bulk': how many values and letters a reading holds, each counted each time it is reached (what is shared counts as often as it is met; a slice's spare places count too). A statement '..UptoSaid' is the law's where the arguments, and the package variables that the reading takes, are together of bulk at most 1048576: NARROWER than '..Said'. Prove '..Said' where nothing that the law and all that it calls make is longer than what came in: it says more and counts as full. Else prove '..UptoSaid'. A law counts once. -/
mutual
def uptoBulk {H : Type} : DataW H → Nat
  | .lit (.string bytes) => bytes.length + 1
  | .lit _ => 1
  | .nil => 1
  | .ptr d => uptoBulk d + 1
  | .slice elems spare => uptoBulkAll elems + uptoBulkAll spare + 1
  | .agg parts => uptoBulkAll parts + 1
  | .iface _ d => uptoBulk d + 1
  | .map entries => uptoBulkEntries entries + 1
  | .held _ => 1
def uptoBulkAll {H : Type} : List (DataW H) → Nat
  | [] => 0
  | d :: r => uptoBulk d + uptoBulkAll r
def uptoBulkEntries {H : Type} : List (Lit × DataW H) → Nat
  | [] => 0
  | x :: r => uptoBulkEntry x + uptoBulkEntries r
def uptoBulkEntry {H : Type} : Lit × DataW H → Nat
  | (.string bytes, d) => bytes.length + uptoBulk d + 1
  | (_, d) => uptoBulk d + 1
 end
def uptoSmall : (H : Type) → List (DataW H) → Bool := fun _ ds => decide (uptoBulkAll ds ≤ 1048576)
def OpenSpec.upto (s : _root_.Go.ChangeSpec) : _root_.Go.OpenSpec := { _root_.Go.OpenSpec.ofChange s with cond := some uptoSmall }

/-- 'laws.FnExactFileCut', WHERE WHAT IT READS IS OF BULK AT MOST 1048576: true; the input reads as it did. -/
def fnExactFileCutUptoRow : OpenClaim := { program := "ytepoaoimappcbaa", sum := "2c4ae837c24345f2d3480a8370855c83cf3c83c3e95e9a2ae1d36066a69788e9", func := "loop.example/snapshotfiles/laws.FnExactFileCut", spec := "fnExactFileCut", apart := false, narrowed := true }
def FnExactFileCutUptoSaid : Prop := fnExactFileCutUptoRow.holds Try.pinned (OpenSpec.upto fnExactFileCutSpec)

/-- 'laws.FnFileCut', WHERE WHAT IT READS IS OF BULK AT MOST 1048576: true; the input reads as it did. -/
def fnFileCutUptoRow : OpenClaim := { program := "ytepoaoimappcbaa", sum := "2c4ae837c24345f2d3480a8370855c83cf3c83c3e95e9a2ae1d36066a69788e9", func := "loop.example/snapshotfiles/laws.FnFileCut", spec := "fnFileCut", apart := false, narrowed := true }
def FnFileCutUptoSaid : Prop := fnFileCutUptoRow.holds Try.pinned (OpenSpec.upto fnFileCutSpec)

end Rows
end Go.Proofs.Ytepoaoimappcbaa
