/- StoreKeep and StoreDrop: the reference's. -/
import Derived.Test.YtipligidnoajfaaDoorStoreKeep
namespace Go.Proofs.YtipligidnoajfaaDoor
open Go.RowKit

theorem held_set2 {y : Int} : ∀ (os : List HeldR) {k : Nat} {o : HeldR}, os[k]? = some o → (heldFlds os).set (k * 3 + 2) (.int y) = heldFlds (os.set k { o with uses := y })
  | [], _, _, h => by simp at h
  | a :: os, 0, o, h => by
    obtain rfl : a = o := by simpa using h
    simp [heldFlds, HeldR.flds]
  | a :: os, k + 1, o, h => by
    have ih := held_set2 (y := y) os (k := k) (o := o) (by simpa using h)
    simp only [heldFlds] at ih ⊢
    rw [List.flatMap_cons, List.set_cons_succ, List.flatMap_cons, ← ih, show (k + 1) * 3 + 2 = (k * 3 + 2) + 3 by omega]
    rfl

def NoneAt (w : World) (e : Ending) (w' : World) : Prop :=
  ∃ v, e = .returned (.tuple #[v, .bool false]) ∧ OwnHelds (fun j => w.heap.size ≤ j) w' v [] ∧ New w w'
theorem NoneAt.keep {r : Option (List HeldR)} (hr : r = none) {w : World} {e : Ending} {w' : World} (h : NoneAt w e w') : KeepPost r w e w' := by
  subst hr; exact h
theorem none_made {w w1 : World} (n : New w w1) : NoneAt w (.returned (.tuple #[.slice (some ⟨w1.heap.size, 0, none⟩) 0 0, .bool false])) (w1.alloc (.cells #[] 47)) :=
  ⟨_, rfl, (OwnRecs.empty 47 3 w1).mono (fun _ _ hj => Nat.le_trans n.size hj), n.alloc _⟩

end Go.Proofs.YtipligidnoajfaaDoor
