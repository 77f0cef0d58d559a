/- The store's put; StorePut and StoreGet of the program. -/
import Derived.Test.YtipligidnoajfaaDoorStoreFind
import Derived.OwnWalk
namespace Go.Proofs.YtipligidnoajfaaDoor
open Go.RowKit Go.Maps

theorem put_keep {xs : List Int} {os : List HeldR} (hs : storeOk os = true) (hx : blockOk xs = true) {i : Nat} {o : HeldR} (ho : os[i]? = some o) (hb : o.bytes = xs) : putH xs os = (keepH o.id os).map (fun r => (r, o.id)) := by
  rw [putH, if_pos ⟨hs, hx⟩, likeH_is (storeOk_all hs).2.2 ho hb, keepH_at hs ho rfl]
  simp only [ho]
  split <;> rfl
theorem put_full {xs : List Int} {os : List HeldR} (hn : ∀ o ∈ os, o.bytes ≠ xs) (hl : ¬ os.length < 16) : putH xs os = none := by
  rw [putH]
  split
  · rw [likeH_none hn]
  · rfl
theorem put_free {xs : List Int} {os : List HeldR} (hs : storeOk os = true) (hx : blockOk xs = true) (hn : ∀ o ∈ os, o.bytes ≠ xs) (hl : os.length < 16) : putH xs os = some (insH ⟨freeH os, xs, 1⟩ os, freeH os) := by
  rw [putH, if_pos ⟨hs, hx⟩, likeH_none hn]; simp only [if_pos hl]

def PutPost (S : Nat → Prop) (b n : Nat) (r : Option (List HeldR × Int)) (w : World) (e : Ending) (w' : World) : Prop :=
  match r with
  | none => (∃ x, e = .returned (.tuple #[.int .i64 x, .bool false])) ∧ Chg (fun j => j = b) w w'
  | some (os, k) => e = .returned (.tuple #[.int .i64 k, .bool true]) ∧ Chg (fun j => j = b) w w' ∧ ∃ qs : List HP, qs.map Prod.fst = os ∧ Store (fun j => (S j ∧ j < w.heap.size) ∨ w.heap.size ≤ j) w' b (n + 1) qs

/-- What StorePut answers. -/
def PutsPost (r : Option (List HeldR × Int)) (w : World) (e : Ending) (w' : World) : Prop :=
  ∃ v, e = .returned (.tuple #[v, .int .i64 ((r.map Prod.snd).getD 0), .bool r.isSome]) ∧ OwnHelds (fun j => w.heap.size ≤ j) w' v ((r.map Prod.fst).getD []) ∧ New w w'

def GetPost (r : Option (List Int)) (w : World) (e : Ending) (w' : World) : Prop :=
  ∃ v, e = .returned (.tuple #[v, .bool r.isSome]) ∧ Ints (fun j => w.heap.size ≤ j) w' v (r.getD []) ∧ New w w'

end Go.Proofs.YtipligidnoajfaaDoor
