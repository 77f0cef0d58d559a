/- Files in the store: the program's storeFile; FileLoad, FileFree, FileStore. -/
import Derived.Test.YtipligidnoajfaaDoorFile
namespace Go.Proofs.YtipligidnoajfaaDoor
open Go.RowKit Go.Maps

def StoresPost (S : Nat → Prop) (b n : Nat) (r : Option (List HeldR × List Int)) (w : World) (e : Ending) (w' : World) : Prop :=
  match r with
  | none => e = .returned (.tuple #[.slice none 0 0, .bool false]) ∧ Chg (fun j => j = b) w w'
  | some (os, ks) => ∃ v, e = .returned (.tuple #[v, .bool true]) ∧ OwnInts 3 (fun j => w.heap.size ≤ j) w' v ks ∧ Chg (fun j => j = b) w w' ∧ ∃ (qs : List HP) (SS : Nat → Prop), qs.map Prod.fst = os ∧ Store SS w' b (n + 4) qs ∧ ∀ j, SS j → S j ∨ w.heap.size ≤ j

/-- What FileStore answers. -/
def FilePost (r : Option (List HeldR × List Int)) (w : World) (e : Ending) (w' : World) : Prop :=
  ∃ v t B, e = .returned (.tuple #[v, t, .bool r.isSome]) ∧ OwnHelds (fun j => B ≤ j) w' v ((r.map Prod.fst).getD []) ∧ OwnI (fun j => w.heap.size ≤ j ∧ j < B) w' t ((r.map Prod.snd).getD []) ∧ w.heap.size ≤ B ∧ New w w'
theorem file_none {r : Option (List HeldR × List Int)} (hr : r = none) {w w1 : World} (n : New w w1) : FilePost r w (.returned (.tuple #[.slice none 0 0, .slice none 0 0, .bool false])) w1 := by
  subst hr
  exact ⟨_, _, w.heap.size, rfl, OwnRecs.nil _ _ _ _, .inl ⟨rfl, none, 0, rfl, Nat.zero_le _, fun _ => rfl⟩, Nat.le_refl _, n⟩

end Go.Proofs.YtipligidnoajfaaDoor
