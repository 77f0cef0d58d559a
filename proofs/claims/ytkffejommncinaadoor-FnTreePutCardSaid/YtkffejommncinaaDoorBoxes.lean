/- An item in a block of its own. -/
import Derived.Test.YtkffejommncinaaDoorTreeFind
namespace Go.Proofs.YtkffejommncinaaDoor
open Go.RowKit

theorem findR_small {os : List ItemR} {p : List UInt8} (hall : ∀ o ∈ os, o.size ≤ 1048576) : ((findR os p).getD noItem).ids.length ≤ 1048576 := by
  unfold findR
  split
  · rcases hf : findI os p with _ | o
    · simp [noItem]
    · exact (ItemR.parts (hall o (findI_some hf).1)).2
  · simp [noItem]
def Box (w : World) (g : Nat) (o : ItemR) (u : Value) : Prop := w.heap[g]? = some (.cells #[.string ⟨o.path.toArray⟩, .bool o.dir, u] 28)
theorem Box.cells {w : World} {g : Nat} {o : ItemR} {u : Value} (h : Box w g o u) : w.cell? ⟨g, 0, none⟩ = some (.string ⟨o.path.toArray⟩) ∧ w.cell? ⟨g, 1, none⟩ = some (.bool o.dir) ∧ w.cell? ⟨g, 2, none⟩ = some u := by
  obtain ⟨h0, h1, h2, -⟩ := set3_cells h
  exact ⟨h0, h1, h2⟩
theorem Box.new {w w' : World} {g : Nat} {o : ItemR} {u : Value} (h : Box w g o u) (n : New w w') : Box w' g o u := n.heap h
theorem Box.chg {w w' : World} {g : Nat} {o : ItemR} {u : Value} {S : Nat → Prop} (h : Box w g o u) (c : Chg S w w') (hs : ¬ S g) : Box w' g o u := c.heap h hs
theorem Box.made (w : World) (o : ItemR) (u : Value) : Box (w.alloc (.cells #[.string ⟨o.path.toArray⟩, .bool o.dir, u] 28)) w.heap.size o u := heap_alloc_new w _
theorem OwnI.new {S : Nat → Prop} {w w' : World} {v : Value} {xs : List Int} (h : OwnI S w v xs) (g : New w w') : OwnI S w' v xs := h.chg g fun _ _ _ hf => hf
theorem OwnI.old {S : Nat → Prop} {w : World} {v : Value} {xs : List Int} (h : OwnI S w v xs) : OwnI (fun j => S j ∧ j < w.heap.size) w v xs := h.mono fun _ hj hs => ⟨hs, hj⟩
end Go.Proofs.YtkffejommncinaaDoor
