/-
  No cell of these rows narrows 'for every input' (looked for: loops, veiled, ifaces, maps, wideKeys, modest, calm, conditions, laid).
  DERIVED. THE GIVEN ROWS OF THIS SEAT. 8 by the template 'for every input the law returns true; each argument reads behind the call as it read before'; 0 by the template 'total and deterministic' (their statements: YtfhnhggmoplmiaaTotals.lean).
  GIVEN WITH THE SEED: the statements are not yours to turn. If you find one false, say at which input.
  Laid BY PROGRAM, IN A SANDBOX (cutbox-rows.mjs): the forced cells as the released guide's own fill.sh prints them over the translation ba7085600bcfa110… (all of the seat's roots in one cut). By AI agents, Wed Nov 11 2026. No macro, syntax, notation, axiom, sorry.
-/
import Derived.Test.YtfhnhggmoplmiaaChecked
import GoSem.Claim
import GoSem.ClaimJoined
import GoSem.ClaimMapViews
import Derived.JoinedTies
import Derived.KernelRfl
namespace Go.Proofs.Ytfhnhggmoplmiaa
/- THE CELL 'sum', in the pinned program and in every row, IS THE sha256 OF THE DUMP (.gsa) THAT YtfhnhggmoplmiaaProg.lean LOADS. Nothing in Lean hashes anything: it is a label: what it is worth is what the hold of that sum in a sandbox is worth. -/
noncomputable def Try.pinned : Pinned := { name := "ytfhnhggmoplmiaa", sum := "ba7085600bcfa110294c28c1d2ffa5e823c2612e4792d207ed41329f8c833b4a", checked := Try.checked }
namespace Rows
def none {H : Type} : Left H := { results := [], args := [] }

/-- 'laws.FnExactFileFree': WHATEVER THE INPUT: true; the input reads as it did. -/
def fnExactFileFreeSpec : ChangeSpec := { name := "fnExactFileFree", fn := fun _ => fun
  | [d1, d2] => { results := [.lit (.bool true)], args := [d1, d2] }
  | _ => none }
def fnExactFileFreeRow : OpenClaim := { program := "ytfhnhggmoplmiaa", sum := "ba7085600bcfa110294c28c1d2ffa5e823c2612e4792d207ed41329f8c833b4a", func := "loop.example/snapshotfiles/laws.FnExactFileFree", spec := "fnExactFileFree", unfollowed := true, recurses := true, apart := false }
def FnExactFileFreeSaid : Prop := fnExactFileFreeRow.holds Try.pinned (OpenSpec.ofChange fnExactFileFreeSpec)

/-- ITS FALSE NEIGHBOUR: 'it returns false'. Refute it at one input. -/
def fnExactFileFreeWrong : ChangeSpec := { name := "fnExactFileFree", fn := fun _ => fun
  | [d1, d2] => { results := [.lit (.bool false)], args := [d1, d2] }
  | _ => none }
def FnExactFileFreeWrongFalsely : Prop := fnExactFileFreeRow.holds Try.pinned (OpenSpec.ofChange fnExactFileFreeWrong)

/-- 'laws.FnExactFileStore': WHATEVER THE INPUT: true; the input reads as it did. -/
def fnExactFileStoreSpec : ChangeSpec := { name := "fnExactFileStore", fn := fun _ => fun
  | [d1, d2] => { results := [.lit (.bool true)], args := [d1, d2] }
  | _ => none }
def fnExactFileStoreRow : OpenClaim := { program := "ytfhnhggmoplmiaa", sum := "ba7085600bcfa110294c28c1d2ffa5e823c2612e4792d207ed41329f8c833b4a", func := "loop.example/snapshotfiles/laws.FnExactFileStore", spec := "fnExactFileStore", unfollowed := true, recurses := true, apart := false }
def FnExactFileStoreSaid : Prop := fnExactFileStoreRow.holds Try.pinned (OpenSpec.ofChange fnExactFileStoreSpec)

/-- ITS FALSE NEIGHBOUR: 'it returns false'. Refute it at one input. -/
def fnExactFileStoreWrong : ChangeSpec := { name := "fnExactFileStore", fn := fun _ => fun
  | [d1, d2] => { results := [.lit (.bool false)], args := [d1, d2] }
  | _ => none }
def FnExactFileStoreWrongFalsely : Prop := fnExactFileStoreRow.holds Try.pinned (OpenSpec.ofChange fnExactFileStoreWrong)

/-- 'laws.FnFileLoad': WHATEVER THE INPUT: true; the input reads as it did. -/
def fnFileLoadSpec : ChangeSpec := { name := "fnFileLoad", fn := fun _ => fun
  | [d] => { results := [.lit (.bool true)], args := [d] }
  | _ => none }
def fnFileLoadRow : OpenClaim := { program := "ytfhnhggmoplmiaa", sum := "ba7085600bcfa110294c28c1d2ffa5e823c2612e4792d207ed41329f8c833b4a", func := "loop.example/snapshotfiles/laws.FnFileLoad", spec := "fnFileLoad", apart := false }
def FnFileLoadSaid : Prop := fnFileLoadRow.holds Try.pinned (OpenSpec.ofChange fnFileLoadSpec)

/-- ITS FALSE NEIGHBOUR: 'it returns false'. Refute it at one input. -/
def fnFileLoadWrong : ChangeSpec := { name := "fnFileLoad", fn := fun _ => fun
  | [d] => { results := [.lit (.bool false)], args := [d] }
  | _ => none }
def FnFileLoadWrongFalsely : Prop := fnFileLoadRow.holds Try.pinned (OpenSpec.ofChange fnFileLoadWrong)

/-- 'laws.FnFileStore': WHATEVER THE INPUT: true; the input reads as it did. -/
def fnFileStoreSpec : ChangeSpec := { name := "fnFileStore", fn := fun _ => fun
  | [d] => { results := [.lit (.bool true)], args := [d] }
  | _ => none }
def fnFileStoreRow : OpenClaim := { program := "ytfhnhggmoplmiaa", sum := "ba7085600bcfa110294c28c1d2ffa5e823c2612e4792d207ed41329f8c833b4a", func := "loop.example/snapshotfiles/laws.FnFileStore", spec := "fnFileStore", unfollowed := true, recurses := true, apart := false }
def FnFileStoreSaid : Prop := fnFileStoreRow.holds Try.pinned (OpenSpec.ofChange fnFileStoreSpec)

/-- ITS FALSE NEIGHBOUR: 'it returns false'. Refute it at one input. -/
def fnFileStoreWrong : ChangeSpec := { name := "fnFileStore", fn := fun _ => fun
  | [d] => { results := [.lit (.bool false)], args := [d] }
  | _ => none }
def FnFileStoreWrongFalsely : Prop := fnFileStoreRow.holds Try.pinned (OpenSpec.ofChange fnFileStoreWrong)

/-- 'laws.FnFileFree': WHATEVER THE INPUT: true; the input reads as it did. -/
def fnFileFreeSpec : ChangeSpec := { name := "fnFileFree", fn := fun _ => fun
  | [d] => { results := [.lit (.bool true)], args := [d] }
  | _ => none }
def fnFileFreeRow : OpenClaim := { program := "ytfhnhggmoplmiaa", sum := "ba7085600bcfa110294c28c1d2ffa5e823c2612e4792d207ed41329f8c833b4a", func := "loop.example/snapshotfiles/laws.FnFileFree", spec := "fnFileFree", unfollowed := true, recurses := true, apart := false }
def FnFileFreeSaid : Prop := fnFileFreeRow.holds Try.pinned (OpenSpec.ofChange fnFileFreeSpec)

/-- ITS FALSE NEIGHBOUR: 'it returns false'. Refute it at one input. -/
def fnFileFreeWrong : ChangeSpec := { name := "fnFileFree", fn := fun _ => fun
  | [d] => { results := [.lit (.bool false)], args := [d] }
  | _ => none }
def FnFileFreeWrongFalsely : Prop := fnFileFreeRow.holds Try.pinned (OpenSpec.ofChange fnFileFreeWrong)

/-- 'laws.FnFileStoreFree': WHATEVER THE INPUT: true; the input reads as it did. -/
def fnFileStoreFreeSpec : ChangeSpec := { name := "fnFileStoreFree", fn := fun _ => fun
  | [d] => { results := [.lit (.bool true)], args := [d] }
  | _ => none }
def fnFileStoreFreeRow : OpenClaim := { program := "ytfhnhggmoplmiaa", sum := "ba7085600bcfa110294c28c1d2ffa5e823c2612e4792d207ed41329f8c833b4a", func := "loop.example/snapshotfiles/laws.FnFileStoreFree", spec := "fnFileStoreFree", unfollowed := true, recurses := true, apart := false }
def FnFileStoreFreeSaid : Prop := fnFileStoreFreeRow.holds Try.pinned (OpenSpec.ofChange fnFileStoreFreeSpec)

/-- ITS FALSE NEIGHBOUR: 'it returns false'. Refute it at one input. -/
def fnFileStoreFreeWrong : ChangeSpec := { name := "fnFileStoreFree", fn := fun _ => fun
  | [d] => { results := [.lit (.bool false)], args := [d] }
  | _ => none }
def FnFileStoreFreeWrongFalsely : Prop := fnFileStoreFreeRow.holds Try.pinned (OpenSpec.ofChange fnFileStoreFreeWrong)

/-- 'laws.FnFileStoreTwice': WHATEVER THE INPUT: true; the input reads as it did. -/
def fnFileStoreTwiceSpec : ChangeSpec := { name := "fnFileStoreTwice", fn := fun _ => fun
  | [d] => { results := [.lit (.bool true)], args := [d] }
  | _ => none }
def fnFileStoreTwiceRow : OpenClaim := { program := "ytfhnhggmoplmiaa", sum := "ba7085600bcfa110294c28c1d2ffa5e823c2612e4792d207ed41329f8c833b4a", func := "loop.example/snapshotfiles/laws.FnFileStoreTwice", spec := "fnFileStoreTwice", unfollowed := true, recurses := true, apart := false }
def FnFileStoreTwiceSaid : Prop := fnFileStoreTwiceRow.holds Try.pinned (OpenSpec.ofChange fnFileStoreTwiceSpec)

/-- ITS FALSE NEIGHBOUR: 'it returns false'. Refute it at one input. -/
def fnFileStoreTwiceWrong : ChangeSpec := { name := "fnFileStoreTwice", fn := fun _ => fun
  | [d] => { results := [.lit (.bool false)], args := [d] }
  | _ => none }
def FnFileStoreTwiceWrongFalsely : Prop := fnFileStoreTwiceRow.holds Try.pinned (OpenSpec.ofChange fnFileStoreTwiceWrong)

/-- 'laws.FnFileStoreMany': WHATEVER THE INPUT: true; the input reads as it did. -/
def fnFileStoreManySpec : ChangeSpec := { name := "fnFileStoreMany", fn := fun _ => fun
  | [d] => { results := [.lit (.bool true)], args := [d] }
  | _ => none }
def fnFileStoreManyRow : OpenClaim := { program := "ytfhnhggmoplmiaa", sum := "ba7085600bcfa110294c28c1d2ffa5e823c2612e4792d207ed41329f8c833b4a", func := "loop.example/snapshotfiles/laws.FnFileStoreMany", spec := "fnFileStoreMany", unfollowed := true, recurses := true, apart := false }
def FnFileStoreManySaid : Prop := fnFileStoreManyRow.holds Try.pinned (OpenSpec.ofChange fnFileStoreManySpec)

/-- ITS FALSE NEIGHBOUR: 'it returns false'. Refute it at one input. -/
def fnFileStoreManyWrong : ChangeSpec := { name := "fnFileStoreMany", fn := fun _ => fun
  | [d] => { results := [.lit (.bool false)], args := [d] }
  | _ => none }
def FnFileStoreManyWrongFalsely : Prop := fnFileStoreManyRow.holds Try.pinned (OpenSpec.ofChange fnFileStoreManyWrong)

/- THE SECOND FORM. 'bulk': how many values and letters a reading holds, each counted each time it is reached (what is shared counts as often as it is met; a slice's spare places count too). A statement '..UptoSaid' is the law's where the arguments, and the package variables that the reading takes, are together of bulk at most 1048576: NARROWER than '..Said'. Prove '..Said' where nothing that the law and all that it calls make is longer than what came in: it says more and counts as full. Else prove '..UptoSaid'. A law counts once. -/
mutual
def uptoBulk {H : Type} : DataW H → Nat
  | .lit (.string bytes) => bytes.length + 1
  | .lit _ => 1
  | .nil => 1
  | .ptr d => uptoBulk d + 1
  | .slice elems spare => uptoBulkAll elems + uptoBulkAll spare + 1
  | .agg parts => uptoBulkAll parts + 1
  | .iface _ d => uptoBulk d + 1
  | .map entries => uptoBulkEntries entries + 1
  | .held _ => 1
def uptoBulkAll {H : Type} : List (DataW H) → Nat
  | [] => 0
  | d :: r => uptoBulk d + uptoBulkAll r
def uptoBulkEntries {H : Type} : List (Lit × DataW H) → Nat
  | [] => 0
  | x :: r => uptoBulkEntry x + uptoBulkEntries r
def uptoBulkEntry {H : Type} : Lit × DataW H → Nat
  | (.string bytes, d) => bytes.length + uptoBulk d + 1
  | (_, d) => uptoBulk d + 1
 end
def uptoSmall : (H : Type) → List (DataW H) → Bool := fun _ ds => decide (uptoBulkAll ds ≤ 1048576)
def OpenSpec.upto (s : _root_.Go.ChangeSpec) : _root_.Go.OpenSpec := { _root_.Go.OpenSpec.ofChange s with cond := some uptoSmall }

/-- 'laws.FnExactFileFree', WHERE WHAT IT READS IS OF BULK AT MOST 1048576: true; the input reads as it did. -/
def fnExactFileFreeUptoRow : OpenClaim := { program := "ytfhnhggmoplmiaa", sum := "ba7085600bcfa110294c28c1d2ffa5e823c2612e4792d207ed41329f8c833b4a", func := "loop.example/snapshotfiles/laws.FnExactFileFree", spec := "fnExactFileFree", unfollowed := true, recurses := true, apart := false, narrowed := true }
def FnExactFileFreeUptoSaid : Prop := fnExactFileFreeUptoRow.holds Try.pinned (OpenSpec.upto fnExactFileFreeSpec)

/-- 'laws.FnExactFileStore', WHERE WHAT IT READS IS OF BULK AT MOST 1048576: true; the input reads as it did. -/
def fnExactFileStoreUptoRow : OpenClaim := { program := "ytfhnhggmoplmiaa", sum := "ba7085600bcfa110294c28c1d2ffa5e823c2612e4792d207ed41329f8c833b4a", func := "loop.example/snapshotfiles/laws.FnExactFileStore", spec := "fnExactFileStore", unfollowed := true, recurses := true, apart := false, narrowed := true }
def FnExactFileStoreUptoSaid : Prop := fnExactFileStoreUptoRow.holds Try.pinned (OpenSpec.upto fnExactFileStoreSpec)

/-- 'laws.FnFileLoad', WHERE WHAT IT READS IS OF BULK AT MOST 1048576: true; the input reads as it did. -/
def fnFileLoadUptoRow : OpenClaim := { program := "ytfhnhggmoplmiaa", sum := "ba7085600bcfa110294c28c1d2ffa5e823c2612e4792d207ed41329f8c833b4a", func := "loop.example/snapshotfiles/laws.FnFileLoad", spec := "fnFileLoad", apart := false, narrowed := true }
def FnFileLoadUptoSaid : Prop := fnFileLoadUptoRow.holds Try.pinned (OpenSpec.upto fnFileLoadSpec)

/-- 'laws.FnFileStore', WHERE WHAT IT READS IS OF BULK AT MOST 1048576: true; the input reads as it did. -/
def fnFileStoreUptoRow : OpenClaim := { program := "ytfhnhggmoplmiaa", sum := "ba7085600bcfa110294c28c1d2ffa5e823c2612e4792d207ed41329f8c833b4a", func := "loop.example/snapshotfiles/laws.FnFileStore", spec := "fnFileStore", unfollowed := true, recurses := true, apart := false, narrowed := true }
def FnFileStoreUptoSaid : Prop := fnFileStoreUptoRow.holds Try.pinned (OpenSpec.upto fnFileStoreSpec)

/-- 'laws.FnFileFree', WHERE WHAT IT READS IS OF BULK AT MOST 1048576: true; the input reads as it did. -/
def fnFileFreeUptoRow : OpenClaim := { program := "ytfhnhggmoplmiaa", sum := "ba7085600bcfa110294c28c1d2ffa5e823c2612e4792d207ed41329f8c833b4a", func := "loop.example/snapshotfiles/laws.FnFileFree", spec := "fnFileFree", unfollowed := true, recurses := true, apart := false, narrowed := true }
def FnFileFreeUptoSaid : Prop := fnFileFreeUptoRow.holds Try.pinned (OpenSpec.upto fnFileFreeSpec)

/-- 'laws.FnFileStoreFree', WHERE WHAT IT READS IS OF BULK AT MOST 1048576: true; the input reads as it did. -/
def fnFileStoreFreeUptoRow : OpenClaim := { program := "ytfhnhggmoplmiaa", sum := "ba7085600bcfa110294c28c1d2ffa5e823c2612e4792d207ed41329f8c833b4a", func := "loop.example/snapshotfiles/laws.FnFileStoreFree", spec := "fnFileStoreFree", unfollowed := true, recurses := true, apart := false, narrowed := true }
def FnFileStoreFreeUptoSaid : Prop := fnFileStoreFreeUptoRow.holds Try.pinned (OpenSpec.upto fnFileStoreFreeSpec)

/-- 'laws.FnFileStoreTwice', WHERE WHAT IT READS IS OF BULK AT MOST 1048576: true; the input reads as it did. -/
def fnFileStoreTwiceUptoRow : OpenClaim := { program := "ytfhnhggmoplmiaa", sum := "ba7085600bcfa110294c28c1d2ffa5e823c2612e4792d207ed41329f8c833b4a", func := "loop.example/snapshotfiles/laws.FnFileStoreTwice", spec := "fnFileStoreTwice", unfollowed := true, recurses := true, apart := false, narrowed := true }
def FnFileStoreTwiceUptoSaid : Prop := fnFileStoreTwiceUptoRow.holds Try.pinned (OpenSpec.upto fnFileStoreTwiceSpec)

/-- 'laws.FnFileStoreMany', WHERE WHAT IT READS IS OF BULK AT MOST 1048576: true; the input reads as it did. -/
def fnFileStoreManyUptoRow : OpenClaim := { program := "ytfhnhggmoplmiaa", sum := "ba7085600bcfa110294c28c1d2ffa5e823c2612e4792d207ed41329f8c833b4a", func := "loop.example/snapshotfiles/laws.FnFileStoreMany", spec := "fnFileStoreMany", unfollowed := true, recurses := true, apart := false, narrowed := true }
def FnFileStoreManyUptoSaid : Prop := fnFileStoreManyUptoRow.holds Try.pinned (OpenSpec.upto fnFileStoreManySpec)

end Rows
end Go.Proofs.Ytfhnhggmoplmiaa
