/- The shelf's contracts for maps.Keys, slices.Sorted and slices.Sort, laid in plain words at this seat's numbers; the keys of a store, sorted. -/
import Derived.Test.YtipligidnoajfaaDoorStore
import Derived.Shelf.SlIterI.Nil
import Derived.Shelf.SortM.Plain
import Derived.Shelf.SortM.SortNone
namespace Go.Proofs.YtipligidnoajfaaDoor
open Go.RowKit Go.Maps Go.Sort Go.Shelf

theorem sorted_ids : ∀ (ids : List Int), ids.Pairwise (fun a b => a < b) → ∀ ss : List Int, ss.Perm ids → ss.mergeSort (fun x y => decide (x ≤ y)) = ids := by
  intro ids hp ss hperm
  have h1 := List.pairwise_mergeSort (le := fun x y : Int => decide (x ≤ y)) (fun a b c h1 h2 => by simp at h1 h2 ⊢; omega) (fun a b => by simp; omega) ss
  refine List.Perm.eq_of_pairwise (le := fun a b => a ≤ b) ?_ ?_ ?_ ((List.mergeSort_perm ss _).trans hperm)
  · intro a b _ _ h1 h2; omega
  · exact h1.imp (by intro a b h; simpa using h)
  · exact hp.imp (by intro a b h; omega)

theorem intKeys_ents (ps : List HP) : intKeys (DataW.map (ps.map HP.ent)) = ps.map (fun p => p.1.id) := by
  simp only [intKeys, List.map_map]
  exact List.map_congr_left fun p _ => rfl

end Go.Proofs.YtipligidnoajfaaDoor
