/- Walks of the draws of paths: of, l91Path, l91Dir. -/
import Derived.Test.YtkffejommncinaaDoorDraw
import Derived.Test.YtkffejommncinaaDoorTextsA
namespace Go.Proofs.YtkffejommncinaaDoor
open Go.RowKit

def TxtPost (g m d : Nat) (w : World) (e : Ending) (w' : World) : Prop :=
  ∃ l, e = .returned (txt l) ∧ l.length ≤ 100 ∧ Rd g w' (m + d) ∧ Chg (fun k => k = g) w w'

set_option maxRecDepth 4000 in
set_option maxHeartbeats 400000 in
theorem drawOf (g m n b : Nat) (w : World) (h : Rd g w m) (hm : m ≤ 900000) (hn1 : 1 ≤ n) (hn2 : n ≤ 1000) (hb : b ≠ g) (hc : ∀ i, i < n → ∃ l, w.cell? ⟨b, i, none⟩ = some (txt l) ∧ l.length ≤ 100) :
    Calls Tryd.prog 50 #[.pointer (some ⟨g, 0, none⟩), .slice (some ⟨b, 0, none⟩) n n] w (TxtPost g m 1 w) := by
  have Hc := Lib.hid hc
  clear hc
  go_enter Tryd.func50, Tryd.ntmps50
  go_wp2_with fail
  refine (pick g m n w h (by omega) (by omega) (by omega)).mono ?_
  rintro e w1 ⟨r, rfl, hr0, hr1, h1, c1⟩
  obtain ⟨k, rfl⟩ : ∃ k : Nat, r = k := ⟨r.toNat, by omega⟩
  obtain ⟨l, hl, hll⟩ := Hc.out k (by omega)
  have hl1 := c1.cell hl (fun e => hb e)
  unfold txt at hl1
  clear hl
  go_wp2_with fail
  go_ret
  exact ⟨l, rfl, hll, h1, c1⟩

theorem lit_cells (w : World) (ls : List (List UInt8)) (te : TypeId) (hl : ∀ l ∈ ls, l.length ≤ 100) (i : Nat) (hi : i < ls.length) :
    ∃ l, (w.alloc (.cells (ls.map txt).toArray te)).cell? ⟨w.heap.size, i, none⟩ = some (txt l) ∧ l.length ≤ 100 := by
  obtain ⟨l, hx⟩ := get_of hi
  refine ⟨l, ?_, hl l (List.mem_of_getElem? hx)⟩
  have hb := heap_alloc_new w (.cells (ls.map txt).toArray te)
  simp only [World.cell?, hb]
  simp [hx]

def paths1 : List (List UInt8) := [[], [97, 47, 47, 98], [47, 97], [97, 47], [65], [97, 98, 99, 100, 101, 102], [97, 47, 98, 47, 99, 47, 100, 47, 101], [97, 47, 98, 47, 99, 47, 100]]
def paths2 : List (List UInt8) := [[97], [98], [97, 47, 120], [97, 47, 121], [98, 47, 120], [97, 47, 120, 47, 112], [99], [97, 47, 120, 47, 113]]

set_option maxRecDepth 4000 in
set_option maxHeartbeats 400000 in
theorem drawPath (g m : Nat) (w : World) (h : Rd g w m) (hm : m ≤ 800000) :
    Calls Tryd.prog 68 #[.pointer (some ⟨g, 0, none⟩)] w (TxtPost g m 2 w) := by
  go_enter Tryd.func68, Tryd.ntmps68
  go_wp2_with fail
  refine (pick g m 30 w h (by omega) (by omega) (by omega)).mono ?_
  rintro e w1 ⟨r, rfl, hr0, hr1, h1, c1⟩
  have hg := h1.lt
  by_cases hr : r = 0
  · subst hr
    go_wp2_with fail
    refine (drawOf g (m + 1) 8 w1.heap.size (w1.alloc (.cells (paths1.map txt).toArray 9)) (h1.new ((New.refl _).alloc _)) (by omega) (by omega) (by omega) (by omega) (lit_cells w1 paths1 _ (by decide))).mono ?_
    rintro e w2 ⟨l, rfl, hl, h2, c2⟩
    unfold txt
    go_wp2_with fail
    go_ret
    exact ⟨l, rfl, hl, h2, (c1.alloc _).trans c2⟩
  · have hr' : (r == 0) = false := by simp [hr]
    go_wp2_with fail
    refine (drawOf g (m + 1) 8 w1.heap.size (w1.alloc (.cells (paths2.map txt).toArray 9)) (h1.new ((New.refl _).alloc _)) (by omega) (by omega) (by omega) (by omega) (lit_cells w1 paths2 _ (by decide))).mono ?_
    rintro e w2 ⟨l, rfl, hl, h2, c2⟩
    unfold txt
    go_wp2_with fail
    go_ret
    exact ⟨l, rfl, hl, h2, (c1.alloc _).trans c2⟩

end Go.Proofs.YtkffejommncinaaDoor
