/-
  No cell of these rows narrows 'for every input' (looked for: loops, veiled, ifaces, maps, wideKeys, modest, calm, conditions, laid).
  DERIVED. THE GIVEN ROWS OF THIS SEAT. 7 by the template 'for every input the law returns true; each argument reads behind the call as it read before'; 0 by the template 'total and deterministic' (their statements: YtapobonfnjgnoaaTotals.lean).
  GIVEN WITH THE SEED: the statements are not yours to turn. If you find one false, say at which input.
  Laid BY PROGRAM, IN A SANDBOX (cutbox-rows.mjs): the forced cells as the released guide's own fill.sh prints them over the translation d01ac0f637489b50… (all of the seat's roots in one cut). By AI agents, Wed Nov 11 2026. No macro, syntax, notation, axiom, sorry.
-/
import Derived.Test.YtapobonfnjgnoaaChecked
import GoSem.Claim
import GoSem.ClaimJoined
import GoSem.ClaimMapViews
import Derived.JoinedTies
import Derived.KernelRfl
namespace Go.Proofs.Ytapobonfnjgnoaa
/- THE CELL 'sum', in the pinned program and in every row, IS THE sha256 OF THE DUMP (.gsa) THAT YtapobonfnjgnoaaProg.lean LOADS. Nothing in Lean hashes anything: it is a label: what it is worth is what the hold of that sum in a sandbox is worth. -/
noncomputable def Try.pinned : Pinned := { name := "ytapobonfnjgnoaa", sum := "d01ac0f637489b5028b426c4868b88a1c66d659362ec71b47179af3e89f32edb", checked := Try.checked }
namespace Rows
def none {H : Type} : Left H := { results := [], args := [] }

/-- 'laws.FnHoldPut': WHATEVER THE INPUT: true; the input reads as it did. -/
def fnHoldPutSpec : ChangeSpec := { name := "fnHoldPut", fn := fun _ => fun
  | [d] => { results := [.lit (.bool true)], args := [d] }
  | _ => none }
def fnHoldPutRow : OpenClaim := { program := "ytapobonfnjgnoaa", sum := "d01ac0f637489b5028b426c4868b88a1c66d659362ec71b47179af3e89f32edb", func := "loop.example/snapshotfiles/laws.FnHoldPut", spec := "fnHoldPut", unfollowed := true, recurses := true, plainKeys := false, apart := false }
def FnHoldPutSaid : Prop := fnHoldPutRow.holds Try.pinned (OpenSpec.ofChange fnHoldPutSpec)

/-- ITS FALSE NEIGHBOUR: 'it returns false'. Refute it at one input. -/
def fnHoldPutWrong : ChangeSpec := { name := "fnHoldPut", fn := fun _ => fun
  | [d] => { results := [.lit (.bool false)], args := [d] }
  | _ => none }
def FnHoldPutWrongFalsely : Prop := fnHoldPutRow.holds Try.pinned (OpenSpec.ofChange fnHoldPutWrong)

/-- 'laws.FnHoldPutDrop': WHATEVER THE INPUT: true; the input reads as it did. -/
def fnHoldPutDropSpec : ChangeSpec := { name := "fnHoldPutDrop", fn := fun _ => fun
  | [d] => { results := [.lit (.bool true)], args := [d] }
  | _ => none }
def fnHoldPutDropRow : OpenClaim := { program := "ytapobonfnjgnoaa", sum := "d01ac0f637489b5028b426c4868b88a1c66d659362ec71b47179af3e89f32edb", func := "loop.example/snapshotfiles/laws.FnHoldPutDrop", spec := "fnHoldPutDrop", unfollowed := true, recurses := true, plainKeys := false, apart := false }
def FnHoldPutDropSaid : Prop := fnHoldPutDropRow.holds Try.pinned (OpenSpec.ofChange fnHoldPutDropSpec)

/-- ITS FALSE NEIGHBOUR: 'it returns false'. Refute it at one input. -/
def fnHoldPutDropWrong : ChangeSpec := { name := "fnHoldPutDrop", fn := fun _ => fun
  | [d] => { results := [.lit (.bool false)], args := [d] }
  | _ => none }
def FnHoldPutDropWrongFalsely : Prop := fnHoldPutDropRow.holds Try.pinned (OpenSpec.ofChange fnHoldPutDropWrong)

/-- 'laws.FnHoldTags': WHATEVER THE INPUT: true; the input reads as it did. -/
def fnHoldTagsSpec : ChangeSpec := { name := "fnHoldTags", fn := fun _ => fun
  | [d] => { results := [.lit (.bool true)], args := [d] }
  | _ => none }
def fnHoldTagsRow : OpenClaim := { program := "ytapobonfnjgnoaa", sum := "d01ac0f637489b5028b426c4868b88a1c66d659362ec71b47179af3e89f32edb", func := "loop.example/snapshotfiles/laws.FnHoldTags", spec := "fnHoldTags", unfollowed := true, recurses := true, plainKeys := false, apart := false }
def FnHoldTagsSaid : Prop := fnHoldTagsRow.holds Try.pinned (OpenSpec.ofChange fnHoldTagsSpec)

/-- ITS FALSE NEIGHBOUR: 'it returns false'. Refute it at one input. -/
def fnHoldTagsWrong : ChangeSpec := { name := "fnHoldTags", fn := fun _ => fun
  | [d] => { results := [.lit (.bool false)], args := [d] }
  | _ => none }
def FnHoldTagsWrongFalsely : Prop := fnHoldTagsRow.holds Try.pinned (OpenSpec.ofChange fnHoldTagsWrong)

/-- 'laws.FnHoldDrop': WHATEVER THE INPUT: true; the input reads as it did. -/
def fnHoldDropSpec : ChangeSpec := { name := "fnHoldDrop", fn := fun _ => fun
  | [d] => { results := [.lit (.bool true)], args := [d] }
  | _ => none }
def fnHoldDropRow : OpenClaim := { program := "ytapobonfnjgnoaa", sum := "d01ac0f637489b5028b426c4868b88a1c66d659362ec71b47179af3e89f32edb", func := "loop.example/snapshotfiles/laws.FnHoldDrop", spec := "fnHoldDrop", unfollowed := true, recurses := true, plainKeys := false, apart := false }
def FnHoldDropSaid : Prop := fnHoldDropRow.holds Try.pinned (OpenSpec.ofChange fnHoldDropSpec)

/-- ITS FALSE NEIGHBOUR: 'it returns false'. Refute it at one input. -/
def fnHoldDropWrong : ChangeSpec := { name := "fnHoldDrop", fn := fun _ => fun
  | [d] => { results := [.lit (.bool false)], args := [d] }
  | _ => none }
def FnHoldDropWrongFalsely : Prop := fnHoldDropRow.holds Try.pinned (OpenSpec.ofChange fnHoldDropWrong)

/-- 'laws.FnExactHoldPut': WHATEVER THE INPUT: true; the input reads as it did. -/
def fnExactHoldPutSpec : ChangeSpec := { name := "fnExactHoldPut", fn := fun _ => fun
  | [d1, d2] => { results := [.lit (.bool true)], args := [d1, d2] }
  | _ => none }
def fnExactHoldPutRow : OpenClaim := { program := "ytapobonfnjgnoaa", sum := "d01ac0f637489b5028b426c4868b88a1c66d659362ec71b47179af3e89f32edb", func := "loop.example/snapshotfiles/laws.FnExactHoldPut", spec := "fnExactHoldPut", unfollowed := true, recurses := true, plainKeys := false, apart := false }
def FnExactHoldPutSaid : Prop := fnExactHoldPutRow.holds Try.pinned (OpenSpec.ofChange fnExactHoldPutSpec)

/-- ITS FALSE NEIGHBOUR: 'it returns false'. Refute it at one input. -/
def fnExactHoldPutWrong : ChangeSpec := { name := "fnExactHoldPut", fn := fun _ => fun
  | [d1, d2] => { results := [.lit (.bool false)], args := [d1, d2] }
  | _ => none }
def FnExactHoldPutWrongFalsely : Prop := fnExactHoldPutRow.holds Try.pinned (OpenSpec.ofChange fnExactHoldPutWrong)

/-- 'laws.FnExactHoldDrop': WHATEVER THE INPUT: true; the input reads as it did. -/
def fnExactHoldDropSpec : ChangeSpec := { name := "fnExactHoldDrop", fn := fun _ => fun
  | [d1, d2] => { results := [.lit (.bool true)], args := [d1, d2] }
  | _ => none }
def fnExactHoldDropRow : OpenClaim := { program := "ytapobonfnjgnoaa", sum := "d01ac0f637489b5028b426c4868b88a1c66d659362ec71b47179af3e89f32edb", func := "loop.example/snapshotfiles/laws.FnExactHoldDrop", spec := "fnExactHoldDrop", unfollowed := true, recurses := true, plainKeys := false, apart := false }
def FnExactHoldDropSaid : Prop := fnExactHoldDropRow.holds Try.pinned (OpenSpec.ofChange fnExactHoldDropSpec)

/-- ITS FALSE NEIGHBOUR: 'it returns false'. Refute it at one input. -/
def fnExactHoldDropWrong : ChangeSpec := { name := "fnExactHoldDrop", fn := fun _ => fun
  | [d1, d2] => { results := [.lit (.bool false)], args := [d1, d2] }
  | _ => none }
def FnExactHoldDropWrongFalsely : Prop := fnExactHoldDropRow.holds Try.pinned (OpenSpec.ofChange fnExactHoldDropWrong)

/-- 'laws.FnExactHoldTags': WHATEVER THE INPUT: true; the input reads as it did. -/
def fnExactHoldTagsSpec : ChangeSpec := { name := "fnExactHoldTags", fn := fun _ => fun
  | [d1, d2] => { results := [.lit (.bool true)], args := [d1, d2] }
  | _ => none }
def fnExactHoldTagsRow : OpenClaim := { program := "ytapobonfnjgnoaa", sum := "d01ac0f637489b5028b426c4868b88a1c66d659362ec71b47179af3e89f32edb", func := "loop.example/snapshotfiles/laws.FnExactHoldTags", spec := "fnExactHoldTags", unfollowed := true, recurses := true, plainKeys := false, apart := false }
def FnExactHoldTagsSaid : Prop := fnExactHoldTagsRow.holds Try.pinned (OpenSpec.ofChange fnExactHoldTagsSpec)

/-- ITS FALSE NEIGHBOUR: 'it returns false'. Refute it at one input. -/
def fnExactHoldTagsWrong : ChangeSpec := { name := "fnExactHoldTags", fn := fun _ => fun
  | [d1, d2] => { results := [.lit (.bool false)], args := [d1, d2] }
  | _ => none }
def FnExactHoldTagsWrongFalsely : Prop := fnExactHoldTagsRow.holds Try.pinned (OpenSpec.ofChange fnExactHoldTagsWrong)

/- THE SECOND FORM. 'bulk': how many values and letters a reading holds, each counted each time it is reached (what is shared counts as often as it is met; a slice's spare places count too). A statement '..UptoSaid' is the law's where the arguments, and the package variables that the reading takes, are together of bulk at most 1048576: NARROWER than '..Said'. Prove '..Said' where nothing that the law and all that it calls make is longer than what came in: it says more and counts as full. Else prove '..UptoSaid'. A law counts once. -/
mutual
def uptoBulk {H : Type} : DataW H → Nat
  | .lit (.string bytes) => bytes.length + 1
  | .lit _ => 1
  | .nil => 1
  | .ptr d => uptoBulk d + 1
  | .slice elems spare => uptoBulkAll elems + uptoBulkAll spare + 1
  | .agg parts => uptoBulkAll parts + 1
  | .iface _ d => uptoBulk d + 1
  | .map entries => uptoBulkEntries entries + 1
  | .held _ => 1
def uptoBulkAll {H : Type} : List (DataW H) → Nat
  | [] => 0
  | d :: r => uptoBulk d + uptoBulkAll r
def uptoBulkEntries {H : Type} : List (Lit × DataW H) → Nat
  | [] => 0
  | x :: r => uptoBulkEntry x + uptoBulkEntries r
def uptoBulkEntry {H : Type} : Lit × DataW H → Nat
  | (.string bytes, d) => bytes.length + uptoBulk d + 1
  | (_, d) => uptoBulk d + 1
 end
def uptoSmall : (H : Type) → List (DataW H) → Bool := fun _ ds => decide (uptoBulkAll ds ≤ 1048576)
def OpenSpec.upto (s : _root_.Go.ChangeSpec) : _root_.Go.OpenSpec := { _root_.Go.OpenSpec.ofChange s with cond := some uptoSmall }

/-- 'laws.FnHoldPut', WHERE WHAT IT READS IS OF BULK AT MOST 1048576: true; the input reads as it did. -/
def fnHoldPutUptoRow : OpenClaim := { program := "ytapobonfnjgnoaa", sum := "d01ac0f637489b5028b426c4868b88a1c66d659362ec71b47179af3e89f32edb", func := "loop.example/snapshotfiles/laws.FnHoldPut", spec := "fnHoldPut", unfollowed := true, recurses := true, plainKeys := false, apart := false, narrowed := true }
def FnHoldPutUptoSaid : Prop := fnHoldPutUptoRow.holds Try.pinned (OpenSpec.upto fnHoldPutSpec)

/-- 'laws.FnHoldPutDrop', WHERE WHAT IT READS IS OF BULK AT MOST 1048576: true; the input reads as it did. -/
def fnHoldPutDropUptoRow : OpenClaim := { program := "ytapobonfnjgnoaa", sum := "d01ac0f637489b5028b426c4868b88a1c66d659362ec71b47179af3e89f32edb", func := "loop.example/snapshotfiles/laws.FnHoldPutDrop", spec := "fnHoldPutDrop", unfollowed := true, recurses := true, plainKeys := false, apart := false, narrowed := true }
def FnHoldPutDropUptoSaid : Prop := fnHoldPutDropUptoRow.holds Try.pinned (OpenSpec.upto fnHoldPutDropSpec)

/-- 'laws.FnHoldTags', WHERE WHAT IT READS IS OF BULK AT MOST 1048576: true; the input reads as it did. -/
def fnHoldTagsUptoRow : OpenClaim := { program := "ytapobonfnjgnoaa", sum := "d01ac0f637489b5028b426c4868b88a1c66d659362ec71b47179af3e89f32edb", func := "loop.example/snapshotfiles/laws.FnHoldTags", spec := "fnHoldTags", unfollowed := true, recurses := true, plainKeys := false, apart := false, narrowed := true }
def FnHoldTagsUptoSaid : Prop := fnHoldTagsUptoRow.holds Try.pinned (OpenSpec.upto fnHoldTagsSpec)

/-- 'laws.FnHoldDrop', WHERE WHAT IT READS IS OF BULK AT MOST 1048576: true; the input reads as it did. -/
def fnHoldDropUptoRow : OpenClaim := { program := "ytapobonfnjgnoaa", sum := "d01ac0f637489b5028b426c4868b88a1c66d659362ec71b47179af3e89f32edb", func := "loop.example/snapshotfiles/laws.FnHoldDrop", spec := "fnHoldDrop", unfollowed := true, recurses := true, plainKeys := false, apart := false, narrowed := true }
def FnHoldDropUptoSaid : Prop := fnHoldDropUptoRow.holds Try.pinned (OpenSpec.upto fnHoldDropSpec)

/-- 'laws.FnExactHoldPut', WHERE WHAT IT READS IS OF BULK AT MOST 1048576: true; the input reads as it did. -/
def fnExactHoldPutUptoRow : OpenClaim := { program := "ytapobonfnjgnoaa", sum := "d01ac0f637489b5028b426c4868b88a1c66d659362ec71b47179af3e89f32edb", func := "loop.example/snapshotfiles/laws.FnExactHoldPut", spec := "fnExactHoldPut", unfollowed := true, recurses := true, plainKeys := false, apart := false, narrowed := true }
def FnExactHoldPutUptoSaid : Prop := fnExactHoldPutUptoRow.holds Try.pinned (OpenSpec.upto fnExactHoldPutSpec)

/-- 'laws.FnExactHoldDrop', WHERE WHAT IT READS IS OF BULK AT MOST 1048576: true; the input reads as it did. -/
def fnExactHoldDropUptoRow : OpenClaim := { program := "ytapobonfnjgnoaa", sum := "d01ac0f637489b5028b426c4868b88a1c66d659362ec71b47179af3e89f32edb", func := "loop.example/snapshotfiles/laws.FnExactHoldDrop", spec := "fnExactHoldDrop", unfollowed := true, recurses := true, plainKeys := false, apart := false, narrowed := true }
def FnExactHoldDropUptoSaid : Prop := fnExactHoldDropUptoRow.holds Try.pinned (OpenSpec.upto fnExactHoldDropSpec)

/-- 'laws.FnExactHoldTags', WHERE WHAT IT READS IS OF BULK AT MOST 1048576: true; the input reads as it did. -/
def fnExactHoldTagsUptoRow : OpenClaim := { program := "ytapobonfnjgnoaa", sum := "d01ac0f637489b5028b426c4868b88a1c66d659362ec71b47179af3e89f32edb", func := "loop.example/snapshotfiles/laws.FnExactHoldTags", spec := "fnExactHoldTags", unfollowed := true, recurses := true, plainKeys := false, apart := false, narrowed := true }
def FnExactHoldTagsUptoSaid : Prop := fnExactHoldTagsUptoRow.holds Try.pinned (OpenSpec.upto fnExactHoldTagsSpec)

end Rows
end Go.Proofs.Ytapobonfnjgnoaa
