/- item(): the item that a change holds. -/
import Derived.Test.YtkffejommncinaaDoorKindOf
import Derived.Test.YtkffejommncinaaDoorTreeFind
namespace Go.Proofs.YtkffejommncinaaDoor
open Go.RowKit

set_option maxRecDepth 4000 in
set_option maxHeartbeats 400000 in
theorem newItemItem (l : List UInt8) (d : Bool) (a : Option Addr) (n c : Nat) (w : World) :
    Calls Tryd.prog 134 #[.agg #[.string ⟨l.toArray⟩, .bool d, .slice a n c]] w fun e w' => e = .returned (.agg #[.string ⟨l.toArray⟩, .bool d, .slice a n c]) ∧ New w w' := by
  have hb := heap_alloc_new (w.alloc (.cells #[.string ⟨l.toArray⟩, .bool d, .slice a n c] 110)) (.cells #[.string ⟨l.toArray⟩, .bool d, .slice a n c] 28)
  rw [World.size_alloc] at hb
  have Hb := Lib.hid hb
  clear hb
  go_enter Tryd.func134, Tryd.ntmps134
  go_wp2_with fail
  obtain ⟨k0, k1, k2, -⟩ := set3_cells Hb.out
  exact bodyPost_ret (v := .agg #[.string ⟨l.toArray⟩, .bool d, .slice a n c]) (by simp [results, Tryd.results134, go_sem, k0, k1, k2]) rfl ⟨rfl, ((New.refl _).alloc _).alloc _⟩
set_option maxRecDepth 4000 in
set_option maxHeartbeats 400000 in
theorem goneItemItem (l : List UInt8) (d : Bool) (a : Option Addr) (n c : Nat) (w : World) :
    Calls Tryd.prog 133 #[.agg #[.string ⟨l.toArray⟩, .bool d, .slice a n c]] w fun e w' => e = .returned (.agg #[.string ⟨l.toArray⟩, .bool d, .slice a n c]) ∧ New w w' := by
  have hb := heap_alloc_new (w.alloc (.cells #[.string ⟨l.toArray⟩, .bool d, .slice a n c] 109)) (.cells #[.string ⟨l.toArray⟩, .bool d, .slice a n c] 28)
  rw [World.size_alloc] at hb
  have Hb := Lib.hid hb
  clear hb
  go_enter Tryd.func133, Tryd.ntmps133
  go_wp2_with fail
  obtain ⟨k0, k1, k2, -⟩ := set3_cells Hb.out
  exact bodyPost_ret (v := .agg #[.string ⟨l.toArray⟩, .bool d, .slice a n c]) (by simp [results, Tryd.results133, go_sem, k0, k1, k2]) rfl ⟨rfl, ((New.refl _).alloc _).alloc _⟩
set_option maxRecDepth 4000 in
set_option maxHeartbeats 400000 in
theorem otherItemItem (l : List UInt8) (d : Bool) (a : Option Addr) (n c : Nat) (w : World) :
    Calls Tryd.prog 135 #[.agg #[.string ⟨l.toArray⟩, .bool d, .slice a n c]] w fun e w' => e = .returned (.agg #[.string ⟨l.toArray⟩, .bool d, .slice a n c]) ∧ New w w' := by
  have hb := heap_alloc_new (w.alloc (.cells #[.string ⟨l.toArray⟩, .bool d, .slice a n c] 111)) (.cells #[.string ⟨l.toArray⟩, .bool d, .slice a n c] 28)
  rw [World.size_alloc] at hb
  have Hb := Lib.hid hb
  clear hb
  go_enter Tryd.func135, Tryd.ntmps135
  go_wp2_with fail
  obtain ⟨k0, k1, k2, -⟩ := set3_cells Hb.out
  exact bodyPost_ret (v := .agg #[.string ⟨l.toArray⟩, .bool d, .slice a n c]) (by simp [results, Tryd.results135, go_sem, k0, k1, k2]) rfl ⟨rfl, ((New.refl _).alloc _).alloc _⟩
end Go.Proofs.YtkffejommncinaaDoor
