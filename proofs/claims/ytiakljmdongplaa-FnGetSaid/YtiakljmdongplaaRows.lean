/-
  No cell of these rows narrows 'for every input' (looked for: loops, veiled, ifaces, maps, wideKeys, modest, calm, conditions, laid).
  DERIVED. THE GIVEN ROWS OF THIS SEAT. 11 by the template 'for every input the law returns true; each argument reads behind the call as it read before'; 0 by the template 'total and deterministic' (their statements: YtiakljmdongplaaTotals.lean).
  GIVEN WITH THE SEED: the statements are not yours to turn. If you find one false, say at which input.
  Laid BY PROGRAM, IN A SANDBOX (cutbox-rows.mjs): the forced cells as the released guide's own fill.sh prints them over the translation 60adb90f7bb1989f… (all of the seat's roots in one cut). By AI agents, Wed Nov 11 2026. No macro, syntax, notation, axiom, sorry.
-/
import Derived.Test.YtiakljmdongplaaChecked
import GoSem.Claim
import GoSem.ClaimJoined
import GoSem.ClaimMapViews
import Derived.JoinedTies
import Derived.KernelRfl
namespace Go.Proofs.Ytiakljmdongplaa
/- THE CELL 'sum', in the pinned program and in every row, IS THE sha256 OF THE DUMP (.gsa) THAT YtiakljmdongplaaProg.lean LOADS. Nothing in Lean hashes anything: it is a label: what it is worth is what the hold of that sum in a sandbox is worth. -/
noncomputable def Try.pinned : Pinned := { name := "ytiakljmdongplaa", sum := "60adb90f7bb1989f7cf80e8ae40205f6a7c89608780805a82d5a7622d9efc208", checked := Try.checked }
namespace Rows
def none {H : Type} : Left H := { results := [], args := [] }

/-- 'laws.FnExactStoreKeep': WHATEVER THE INPUT: true; the input reads as it did. -/
def fnExactStoreKeepSpec : ChangeSpec := { name := "fnExactStoreKeep", fn := fun _ => fun
  | [d1, d2] => { results := [.lit (.bool true)], args := [d1, d2] }
  | _ => none }
def fnExactStoreKeepRow : OpenClaim := { program := "ytiakljmdongplaa", sum := "60adb90f7bb1989f7cf80e8ae40205f6a7c89608780805a82d5a7622d9efc208", func := "loop.example/snapshotfiles/laws.FnExactStoreKeep", spec := "fnExactStoreKeep", unfollowed := true, recurses := true, apart := false }
def FnExactStoreKeepSaid : Prop := fnExactStoreKeepRow.holds Try.pinned (OpenSpec.ofChange fnExactStoreKeepSpec)

/-- ITS FALSE NEIGHBOUR: 'it returns false'. Refute it at one input. -/
def fnExactStoreKeepWrong : ChangeSpec := { name := "fnExactStoreKeep", fn := fun _ => fun
  | [d1, d2] => { results := [.lit (.bool false)], args := [d1, d2] }
  | _ => none }
def FnExactStoreKeepWrongFalsely : Prop := fnExactStoreKeepRow.holds Try.pinned (OpenSpec.ofChange fnExactStoreKeepWrong)

/-- 'laws.FnExactStoreDrop': WHATEVER THE INPUT: true; the input reads as it did. -/
def fnExactStoreDropSpec : ChangeSpec := { name := "fnExactStoreDrop", fn := fun _ => fun
  | [d1, d2] => { results := [.lit (.bool true)], args := [d1, d2] }
  | _ => none }
def fnExactStoreDropRow : OpenClaim := { program := "ytiakljmdongplaa", sum := "60adb90f7bb1989f7cf80e8ae40205f6a7c89608780805a82d5a7622d9efc208", func := "loop.example/snapshotfiles/laws.FnExactStoreDrop", spec := "fnExactStoreDrop", unfollowed := true, recurses := true, apart := false }
def FnExactStoreDropSaid : Prop := fnExactStoreDropRow.holds Try.pinned (OpenSpec.ofChange fnExactStoreDropSpec)

/-- ITS FALSE NEIGHBOUR: 'it returns false'. Refute it at one input. -/
def fnExactStoreDropWrong : ChangeSpec := { name := "fnExactStoreDrop", fn := fun _ => fun
  | [d1, d2] => { results := [.lit (.bool false)], args := [d1, d2] }
  | _ => none }
def FnExactStoreDropWrongFalsely : Prop := fnExactStoreDropRow.holds Try.pinned (OpenSpec.ofChange fnExactStoreDropWrong)

/-- 'laws.FnGet': WHATEVER THE INPUT: true; the input reads as it did. -/
def fnGetSpec : ChangeSpec := { name := "fnGet", fn := fun _ => fun
  | [d] => { results := [.lit (.bool true)], args := [d] }
  | _ => none }
def fnGetRow : OpenClaim := { program := "ytiakljmdongplaa", sum := "60adb90f7bb1989f7cf80e8ae40205f6a7c89608780805a82d5a7622d9efc208", func := "loop.example/snapshotfiles/laws.FnGet", spec := "fnGet", unfollowed := true, recurses := true, apart := false }
def FnGetSaid : Prop := fnGetRow.holds Try.pinned (OpenSpec.ofChange fnGetSpec)

/-- ITS FALSE NEIGHBOUR: 'it returns false'. Refute it at one input. -/
def fnGetWrong : ChangeSpec := { name := "fnGet", fn := fun _ => fun
  | [d] => { results := [.lit (.bool false)], args := [d] }
  | _ => none }
def FnGetWrongFalsely : Prop := fnGetRow.holds Try.pinned (OpenSpec.ofChange fnGetWrong)

/-- 'laws.FnDrop': WHATEVER THE INPUT: true; the input reads as it did. -/
def fnDropSpec : ChangeSpec := { name := "fnDrop", fn := fun _ => fun
  | [d] => { results := [.lit (.bool true)], args := [d] }
  | _ => none }
def fnDropRow : OpenClaim := { program := "ytiakljmdongplaa", sum := "60adb90f7bb1989f7cf80e8ae40205f6a7c89608780805a82d5a7622d9efc208", func := "loop.example/snapshotfiles/laws.FnDrop", spec := "fnDrop", unfollowed := true, recurses := true, apart := false }
def FnDropSaid : Prop := fnDropRow.holds Try.pinned (OpenSpec.ofChange fnDropSpec)

/-- ITS FALSE NEIGHBOUR: 'it returns false'. Refute it at one input. -/
def fnDropWrong : ChangeSpec := { name := "fnDrop", fn := fun _ => fun
  | [d] => { results := [.lit (.bool false)], args := [d] }
  | _ => none }
def FnDropWrongFalsely : Prop := fnDropRow.holds Try.pinned (OpenSpec.ofChange fnDropWrong)

/-- 'laws.FnKeep': WHATEVER THE INPUT: true; the input reads as it did. -/
def fnKeepSpec : ChangeSpec := { name := "fnKeep", fn := fun _ => fun
  | [d] => { results := [.lit (.bool true)], args := [d] }
  | _ => none }
def fnKeepRow : OpenClaim := { program := "ytiakljmdongplaa", sum := "60adb90f7bb1989f7cf80e8ae40205f6a7c89608780805a82d5a7622d9efc208", func := "loop.example/snapshotfiles/laws.FnKeep", spec := "fnKeep", unfollowed := true, recurses := true, apart := false }
def FnKeepSaid : Prop := fnKeepRow.holds Try.pinned (OpenSpec.ofChange fnKeepSpec)

/-- ITS FALSE NEIGHBOUR: 'it returns false'. Refute it at one input. -/
def fnKeepWrong : ChangeSpec := { name := "fnKeep", fn := fun _ => fun
  | [d] => { results := [.lit (.bool false)], args := [d] }
  | _ => none }
def FnKeepWrongFalsely : Prop := fnKeepRow.holds Try.pinned (OpenSpec.ofChange fnKeepWrong)

/-- 'laws.FnKeepPut': WHATEVER THE INPUT: true; the input reads as it did. -/
def fnKeepPutSpec : ChangeSpec := { name := "fnKeepPut", fn := fun _ => fun
  | [d] => { results := [.lit (.bool true)], args := [d] }
  | _ => none }
def fnKeepPutRow : OpenClaim := { program := "ytiakljmdongplaa", sum := "60adb90f7bb1989f7cf80e8ae40205f6a7c89608780805a82d5a7622d9efc208", func := "loop.example/snapshotfiles/laws.FnKeepPut", spec := "fnKeepPut", unfollowed := true, recurses := true, apart := false }
def FnKeepPutSaid : Prop := fnKeepPutRow.holds Try.pinned (OpenSpec.ofChange fnKeepPutSpec)

/-- ITS FALSE NEIGHBOUR: 'it returns false'. Refute it at one input. -/
def fnKeepPutWrong : ChangeSpec := { name := "fnKeepPut", fn := fun _ => fun
  | [d] => { results := [.lit (.bool false)], args := [d] }
  | _ => none }
def FnKeepPutWrongFalsely : Prop := fnKeepPutRow.holds Try.pinned (OpenSpec.ofChange fnKeepPutWrong)

/-- 'laws.FnExactStorePut': WHATEVER THE INPUT: true; the input reads as it did. -/
def fnExactStorePutSpec : ChangeSpec := { name := "fnExactStorePut", fn := fun _ => fun
  | [d1, d2] => { results := [.lit (.bool true)], args := [d1, d2] }
  | _ => none }
def fnExactStorePutRow : OpenClaim := { program := "ytiakljmdongplaa", sum := "60adb90f7bb1989f7cf80e8ae40205f6a7c89608780805a82d5a7622d9efc208", func := "loop.example/snapshotfiles/laws.FnExactStorePut", spec := "fnExactStorePut", unfollowed := true, recurses := true, apart := false }
def FnExactStorePutSaid : Prop := fnExactStorePutRow.holds Try.pinned (OpenSpec.ofChange fnExactStorePutSpec)

/-- ITS FALSE NEIGHBOUR: 'it returns false'. Refute it at one input. -/
def fnExactStorePutWrong : ChangeSpec := { name := "fnExactStorePut", fn := fun _ => fun
  | [d1, d2] => { results := [.lit (.bool false)], args := [d1, d2] }
  | _ => none }
def FnExactStorePutWrongFalsely : Prop := fnExactStorePutRow.holds Try.pinned (OpenSpec.ofChange fnExactStorePutWrong)

/-- 'laws.FnStorePut': WHATEVER THE INPUT: true; the input reads as it did. -/
def fnStorePutSpec : ChangeSpec := { name := "fnStorePut", fn := fun _ => fun
  | [d] => { results := [.lit (.bool true)], args := [d] }
  | _ => none }
def fnStorePutRow : OpenClaim := { program := "ytiakljmdongplaa", sum := "60adb90f7bb1989f7cf80e8ae40205f6a7c89608780805a82d5a7622d9efc208", func := "loop.example/snapshotfiles/laws.FnStorePut", spec := "fnStorePut", unfollowed := true, recurses := true, apart := false }
def FnStorePutSaid : Prop := fnStorePutRow.holds Try.pinned (OpenSpec.ofChange fnStorePutSpec)

/-- ITS FALSE NEIGHBOUR: 'it returns false'. Refute it at one input. -/
def fnStorePutWrong : ChangeSpec := { name := "fnStorePut", fn := fun _ => fun
  | [d] => { results := [.lit (.bool false)], args := [d] }
  | _ => none }
def FnStorePutWrongFalsely : Prop := fnStorePutRow.holds Try.pinned (OpenSpec.ofChange fnStorePutWrong)

/-- 'laws.FnStorePutOnce': WHATEVER THE INPUT: true; the input reads as it did. -/
def fnStorePutOnceSpec : ChangeSpec := { name := "fnStorePutOnce", fn := fun _ => fun
  | [d] => { results := [.lit (.bool true)], args := [d] }
  | _ => none }
def fnStorePutOnceRow : OpenClaim := { program := "ytiakljmdongplaa", sum := "60adb90f7bb1989f7cf80e8ae40205f6a7c89608780805a82d5a7622d9efc208", func := "loop.example/snapshotfiles/laws.FnStorePutOnce", spec := "fnStorePutOnce", unfollowed := true, recurses := true, apart := false }
def FnStorePutOnceSaid : Prop := fnStorePutOnceRow.holds Try.pinned (OpenSpec.ofChange fnStorePutOnceSpec)

/-- ITS FALSE NEIGHBOUR: 'it returns false'. Refute it at one input. -/
def fnStorePutOnceWrong : ChangeSpec := { name := "fnStorePutOnce", fn := fun _ => fun
  | [d] => { results := [.lit (.bool false)], args := [d] }
  | _ => none }
def FnStorePutOnceWrongFalsely : Prop := fnStorePutOnceRow.holds Try.pinned (OpenSpec.ofChange fnStorePutOnceWrong)

/-- 'laws.FnStorePutOthers': WHATEVER THE INPUT: true; the input reads as it did. -/
def fnStorePutOthersSpec : ChangeSpec := { name := "fnStorePutOthers", fn := fun _ => fun
  | [d] => { results := [.lit (.bool true)], args := [d] }
  | _ => none }
def fnStorePutOthersRow : OpenClaim := { program := "ytiakljmdongplaa", sum := "60adb90f7bb1989f7cf80e8ae40205f6a7c89608780805a82d5a7622d9efc208", func := "loop.example/snapshotfiles/laws.FnStorePutOthers", spec := "fnStorePutOthers", unfollowed := true, recurses := true, apart := false }
def FnStorePutOthersSaid : Prop := fnStorePutOthersRow.holds Try.pinned (OpenSpec.ofChange fnStorePutOthersSpec)

/-- ITS FALSE NEIGHBOUR: 'it returns false'. Refute it at one input. -/
def fnStorePutOthersWrong : ChangeSpec := { name := "fnStorePutOthers", fn := fun _ => fun
  | [d] => { results := [.lit (.bool false)], args := [d] }
  | _ => none }
def FnStorePutOthersWrongFalsely : Prop := fnStorePutOthersRow.holds Try.pinned (OpenSpec.ofChange fnStorePutOthersWrong)

/-- 'laws.FnStorePutDrop': WHATEVER THE INPUT: true; the input reads as it did. -/
def fnStorePutDropSpec : ChangeSpec := { name := "fnStorePutDrop", fn := fun _ => fun
  | [d] => { results := [.lit (.bool true)], args := [d] }
  | _ => none }
def fnStorePutDropRow : OpenClaim := { program := "ytiakljmdongplaa", sum := "60adb90f7bb1989f7cf80e8ae40205f6a7c89608780805a82d5a7622d9efc208", func := "loop.example/snapshotfiles/laws.FnStorePutDrop", spec := "fnStorePutDrop", unfollowed := true, recurses := true, apart := false }
def FnStorePutDropSaid : Prop := fnStorePutDropRow.holds Try.pinned (OpenSpec.ofChange fnStorePutDropSpec)

/-- ITS FALSE NEIGHBOUR: 'it returns false'. Refute it at one input. -/
def fnStorePutDropWrong : ChangeSpec := { name := "fnStorePutDrop", fn := fun _ => fun
  | [d] => { results := [.lit (.bool false)], args := [d] }
  | _ => none }
def FnStorePutDropWrongFalsely : Prop := fnStorePutDropRow.holds Try.pinned (OpenSpec.ofChange fnStorePutDropWrong)

/- THE SECOND FORM. 'bulk': how many values and letters a reading holds, each counted each time it is reached (what is shared counts as often as it is met; a slice's spare places count too). A statement '..UptoSaid' is the law's where the arguments, and the package variables that the reading takes, are together of bulk at most 1048576: NARROWER than '..Said'. Prove '..Said' where nothing that the law and all that it calls make is longer than what came in: it says more and counts as full. Else prove '..UptoSaid'. A law counts once. -/
mutual
def uptoBulk {H : Type} : DataW H → Nat
  | .lit (.string bytes) => bytes.length + 1
  | .lit _ => 1
  | .nil => 1
  | .ptr d => uptoBulk d + 1
  | .slice elems spare => uptoBulkAll elems + uptoBulkAll spare + 1
  | .agg parts => uptoBulkAll parts + 1
  | .iface _ d => uptoBulk d + 1
  | .map entries => uptoBulkEntries entries + 1
  | .held _ => 1
def uptoBulkAll {H : Type} : List (DataW H) → Nat
  | [] => 0
  | d :: r => uptoBulk d + uptoBulkAll r
def uptoBulkEntries {H : Type} : List (Lit × DataW H) → Nat
  | [] => 0
  | x :: r => uptoBulkEntry x + uptoBulkEntries r
def uptoBulkEntry {H : Type} : Lit × DataW H → Nat
  | (.string bytes, d) => bytes.length + uptoBulk d + 1
  | (_, d) => uptoBulk d + 1
 end
def uptoSmall : (H : Type) → List (DataW H) → Bool := fun _ ds => decide (uptoBulkAll ds ≤ 1048576)
def OpenSpec.upto (s : _root_.Go.ChangeSpec) : _root_.Go.OpenSpec := { _root_.Go.OpenSpec.ofChange s with cond := some uptoSmall }

/-- 'laws.FnExactStoreKeep', WHERE WHAT IT READS IS OF BULK AT MOST 1048576: true; the input reads as it did. -/
def fnExactStoreKeepUptoRow : OpenClaim := { program := "ytiakljmdongplaa", sum := "60adb90f7bb1989f7cf80e8ae40205f6a7c89608780805a82d5a7622d9efc208", func := "loop.example/snapshotfiles/laws.FnExactStoreKeep", spec := "fnExactStoreKeep", unfollowed := true, recurses := true, apart := false, narrowed := true }
def FnExactStoreKeepUptoSaid : Prop := fnExactStoreKeepUptoRow.holds Try.pinned (OpenSpec.upto fnExactStoreKeepSpec)

/-- 'laws.FnExactStoreDrop', WHERE WHAT IT READS IS OF BULK AT MOST 1048576: true; the input reads as it did. -/
def fnExactStoreDropUptoRow : OpenClaim := { program := "ytiakljmdongplaa", sum := "60adb90f7bb1989f7cf80e8ae40205f6a7c89608780805a82d5a7622d9efc208", func := "loop.example/snapshotfiles/laws.FnExactStoreDrop", spec := "fnExactStoreDrop", unfollowed := true, recurses := true, apart := false, narrowed := true }
def FnExactStoreDropUptoSaid : Prop := fnExactStoreDropUptoRow.holds Try.pinned (OpenSpec.upto fnExactStoreDropSpec)

/-- 'laws.FnGet', WHERE WHAT IT READS IS OF BULK AT MOST 1048576: true; the input reads as it did. -/
def fnGetUptoRow : OpenClaim := { program := "ytiakljmdongplaa", sum := "60adb90f7bb1989f7cf80e8ae40205f6a7c89608780805a82d5a7622d9efc208", func := "loop.example/snapshotfiles/laws.FnGet", spec := "fnGet", unfollowed := true, recurses := true, apart := false, narrowed := true }
def FnGetUptoSaid : Prop := fnGetUptoRow.holds Try.pinned (OpenSpec.upto fnGetSpec)

/-- 'laws.FnDrop', WHERE WHAT IT READS IS OF BULK AT MOST 1048576: true; the input reads as it did. -/
def fnDropUptoRow : OpenClaim := { program := "ytiakljmdongplaa", sum := "60adb90f7bb1989f7cf80e8ae40205f6a7c89608780805a82d5a7622d9efc208", func := "loop.example/snapshotfiles/laws.FnDrop", spec := "fnDrop", unfollowed := true, recurses := true, apart := false, narrowed := true }
def FnDropUptoSaid : Prop := fnDropUptoRow.holds Try.pinned (OpenSpec.upto fnDropSpec)

/-- 'laws.FnKeep', WHERE WHAT IT READS IS OF BULK AT MOST 1048576: true; the input reads as it did. -/
def fnKeepUptoRow : OpenClaim := { program := "ytiakljmdongplaa", sum := "60adb90f7bb1989f7cf80e8ae40205f6a7c89608780805a82d5a7622d9efc208", func := "loop.example/snapshotfiles/laws.FnKeep", spec := "fnKeep", unfollowed := true, recurses := true, apart := false, narrowed := true }
def FnKeepUptoSaid : Prop := fnKeepUptoRow.holds Try.pinned (OpenSpec.upto fnKeepSpec)

/-- 'laws.FnKeepPut', WHERE WHAT IT READS IS OF BULK AT MOST 1048576: true; the input reads as it did. -/
def fnKeepPutUptoRow : OpenClaim := { program := "ytiakljmdongplaa", sum := "60adb90f7bb1989f7cf80e8ae40205f6a7c89608780805a82d5a7622d9efc208", func := "loop.example/snapshotfiles/laws.FnKeepPut", spec := "fnKeepPut", unfollowed := true, recurses := true, apart := false, narrowed := true }
def FnKeepPutUptoSaid : Prop := fnKeepPutUptoRow.holds Try.pinned (OpenSpec.upto fnKeepPutSpec)

/-- 'laws.FnExactStorePut', WHERE WHAT IT READS IS OF BULK AT MOST 1048576: true; the input reads as it did. -/
def fnExactStorePutUptoRow : OpenClaim := { program := "ytiakljmdongplaa", sum := "60adb90f7bb1989f7cf80e8ae40205f6a7c89608780805a82d5a7622d9efc208", func := "loop.example/snapshotfiles/laws.FnExactStorePut", spec := "fnExactStorePut", unfollowed := true, recurses := true, apart := false, narrowed := true }
def FnExactStorePutUptoSaid : Prop := fnExactStorePutUptoRow.holds Try.pinned (OpenSpec.upto fnExactStorePutSpec)

/-- 'laws.FnStorePut', WHERE WHAT IT READS IS OF BULK AT MOST 1048576: true; the input reads as it did. -/
def fnStorePutUptoRow : OpenClaim := { program := "ytiakljmdongplaa", sum := "60adb90f7bb1989f7cf80e8ae40205f6a7c89608780805a82d5a7622d9efc208", func := "loop.example/snapshotfiles/laws.FnStorePut", spec := "fnStorePut", unfollowed := true, recurses := true, apart := false, narrowed := true }
def FnStorePutUptoSaid : Prop := fnStorePutUptoRow.holds Try.pinned (OpenSpec.upto fnStorePutSpec)

/-- 'laws.FnStorePutOnce', WHERE WHAT IT READS IS OF BULK AT MOST 1048576: true; the input reads as it did. -/
def fnStorePutOnceUptoRow : OpenClaim := { program := "ytiakljmdongplaa", sum := "60adb90f7bb1989f7cf80e8ae40205f6a7c89608780805a82d5a7622d9efc208", func := "loop.example/snapshotfiles/laws.FnStorePutOnce", spec := "fnStorePutOnce", unfollowed := true, recurses := true, apart := false, narrowed := true }
def FnStorePutOnceUptoSaid : Prop := fnStorePutOnceUptoRow.holds Try.pinned (OpenSpec.upto fnStorePutOnceSpec)

/-- 'laws.FnStorePutOthers', WHERE WHAT IT READS IS OF BULK AT MOST 1048576: true; the input reads as it did. -/
def fnStorePutOthersUptoRow : OpenClaim := { program := "ytiakljmdongplaa", sum := "60adb90f7bb1989f7cf80e8ae40205f6a7c89608780805a82d5a7622d9efc208", func := "loop.example/snapshotfiles/laws.FnStorePutOthers", spec := "fnStorePutOthers", unfollowed := true, recurses := true, apart := false, narrowed := true }
def FnStorePutOthersUptoSaid : Prop := fnStorePutOthersUptoRow.holds Try.pinned (OpenSpec.upto fnStorePutOthersSpec)

/-- 'laws.FnStorePutDrop', WHERE WHAT IT READS IS OF BULK AT MOST 1048576: true; the input reads as it did. -/
def fnStorePutDropUptoRow : OpenClaim := { program := "ytiakljmdongplaa", sum := "60adb90f7bb1989f7cf80e8ae40205f6a7c89608780805a82d5a7622d9efc208", func := "loop.example/snapshotfiles/laws.FnStorePutDrop", spec := "fnStorePutDrop", unfollowed := true, recurses := true, apart := false, narrowed := true }
def FnStorePutDropUptoSaid : Prop := fnStorePutDropUptoRow.holds Try.pinned (OpenSpec.upto fnStorePutDropSpec)

end Rows
end Go.Proofs.Ytiakljmdongplaa
