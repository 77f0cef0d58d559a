/- What the store's calls answer, in the two cases. -/
import Derived.Test.YtfhnhggmoplmiaaStorePutSpec2
import Derived.Test.YtfhnhggmoplmiaaStoreDropSpec
import Derived.Test.YtfhnhggmoplmiaaStoreSame
import Derived.Test.YtfhnhggmoplmiaaDrawPut
namespace Go.Proofs.Ytfhnhggmoplmiaa
open Go.RowKit

section
variable {w w' : World} {e : Ending} {os : List HeldR} {xs : List Int} {k : Int}
theorem keepSome {r : Option (List HeldR)} (hr : r = some os) (h : KeepPost r w e w') : ∃ v, e = .returned (.tuple #[v, .bool true]) ∧ OwnHelds (fun j => w.heap.size ≤ j) w' v os ∧ New w w' := by
  subst hr; exact h
theorem keepNone {r : Option (List HeldR)} (hr : r = none) (h : KeepPost r w e w') : ∃ v, e = .returned (.tuple #[v, .bool false]) ∧ OwnHelds (fun j => w.heap.size ≤ j) w' v [] ∧ New w w' := by
  subst hr; exact h
theorem getSome {r : Option (List Int)} (hr : r = some xs) (h : GetPost r w e w') : ∃ v, e = .returned (.tuple #[v, .bool true]) ∧ Ints (fun j => w.heap.size ≤ j) w' v xs ∧ New w w' := by
  subst hr; exact h
theorem getNone {r : Option (List Int)} (hr : r = none) (h : GetPost r w e w') : ∃ v, e = .returned (.tuple #[v, .bool false]) ∧ Ints (fun j => w.heap.size ≤ j) w' v [] ∧ New w w' := by
  subst hr; exact h
theorem putsSome {r : Option (List HeldR × Int)} (hr : r = some (os, k)) (h : PutsPost r w e w') : ∃ v, e = .returned (.tuple #[v, .int .i64 k, .bool true]) ∧ OwnHelds (fun j => w.heap.size ≤ j) w' v os ∧ New w w' := by
  subst hr; exact h
theorem putsNone {r : Option (List HeldR × Int)} (hr : r = none) (h : PutsPost r w e w') : ∃ v, e = .returned (.tuple #[v, .int .i64 0, .bool false]) ∧ OwnHelds (fun j => w.heap.size ≤ j) w' v [] ∧ New w w' := by
  subst hr; exact h
theorem readSome {r : Option (List HeldR × Int)} (hr : r = some (os, k)) (h : PutsRead r w e w') : ∃ v, e = .returned (.tuple #[v, .int .i64 k, .bool true]) ∧ Helds (fun j => w.heap.size ≤ j) w' v os ∧ New w w' := by
  subst hr; exact h
theorem readNone {r : Option (List HeldR × Int)} (hr : r = none) (h : PutsRead r w e w') : ∃ v, e = .returned (.tuple #[v, .int .i64 0, .bool false]) ∧ Helds (fun j => w.heap.size ≤ j) w' v [] ∧ New w w' := by
  subst hr; exact h
theorem putH_id {os' : List HeldR} (h : putH xs os = some (os', k)) : 0 < k ∧ k ≤ 99 := by
  obtain ⟨hs, -, -, h4⟩ := putH_cases h
  rcases h4 with ⟨i, o, ho, -, rfl, -, -⟩ | ⟨-, -, rfl, hl, -⟩
  · have := (storeOk_all hs).2.1 o (List.mem_of_getElem? ho)
    exact ⟨this.1, this.2.1⟩
  · obtain ⟨f1, f2, -⟩ := freeH_is hs
    omega
theorem usesH_bound (hs : storeOk os = true) (k : Int) : 0 ≤ usesH k os ∧ usesH k os ≤ 999 := by
  rcases atH_cases k os with ⟨e, hn⟩ | ⟨i, o, e, ho, hid⟩
  · rw [usesH_none hn]; omega
  · rw [usesH_at hs ho hid]
    have := (storeOk_all hs).2.1 o (List.mem_of_getElem? ho)
    omega
end
end Go.Proofs.Ytfhnhggmoplmiaa
