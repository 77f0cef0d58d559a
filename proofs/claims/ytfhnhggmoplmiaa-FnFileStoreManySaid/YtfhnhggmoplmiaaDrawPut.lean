/- Walks of l91Block, l91Id and the draws of stores with a block or an id. -/
import Derived.Test.YtfhnhggmoplmiaaDrawStore
namespace Go.Proofs.Ytfhnhggmoplmiaa
open Go.RowKit

def BlockAt (g m : Nat) (w : World) (e : Ending) (w' : World) : Prop :=
  ∃ v xs, e = .returned v ∧ xs.length ≤ 16 ∧ Ints (fun j => w.heap.size ≤ j) w' v xs ∧ Rd g w' (m + 100) ∧ Chg (fun k => k = g) w w'

def IdAt (g m : Nat) (w : World) (e : Ending) (w' : World) : Prop :=
  ∃ x : Int, e = .returned (.int .i64 x) ∧ I64 x ∧ Rd g w' (m + 2) ∧ Chg (fun k => k = g) w w'

set_option maxRecDepth 4000 in
set_option maxHeartbeats 1000000 in
theorem l91Id (g m : Nat) (v : Value) (os : List HeldR) (w : World) (h : Rd g w m) (hm : m ≤ 900000) (ho : Helds (fun j => g < j) w v os) (hl : os.length ≤ 100) :
    Calls Try.prog 54 #[.pointer (some ⟨g, 0, none⟩), v] w (IdAt g m w) := by
  have h0 := ho
  obtain ⟨-, a, c, rfl, h1, h2, -⟩ := ho
  unfold maxLen at h2
  by_cases hz : os.length = 0
  · have hz' : ¬ (0 : Int) < (os.length : Int) := by omega
    go_enter Try.func54, Try.ntmps54
    go_wp2_with fail
    refine (pick g _ 8 _ h (by omega) (by omega) (by omega)).mono ?_
    rintro e w1 ⟨x, rfl, hx0, hx1, h1, c1⟩
    go_wp2_with fail
    go_ret
    exact ⟨x, rfl, I64.mk (by omega) (by omega), h1.mono (by omega), c1⟩
  · have hz' : (0 : Int) < (os.length : Int) := by omega
    go_enter Try.func54, Try.ntmps54
    go_wp2_with fail
    refine (pick g _ 5 _ h (by omega) (by omega) (by omega)).mono ?_
    rintro e w1 ⟨t, rfl, ht0, ht1, h1', c1⟩
    have o1 := Recs.chg h0 c1 (fun j _ hj e => by omega)
    by_cases hq : 0 < t
    · go_wp2_with fail
      refine (pick g _ os.length _ h1' (by omega) (by omega) (by omega)).mono ?_
      rintro e w2 ⟨q, rfl, hq0, hq1, h2', c2⟩
      have o2 := Recs.chg o1 c2 (fun j _ hj e => by omega)
      obtain ⟨qn, rfl⟩ : ∃ qn : Nat, q = qn := ⟨q.toNat, by omega⟩
      obtain ⟨o, ho⟩ := get_of (show qn < os.length by omega)
      obtain ⟨b, off, c', u, e1, hb, k0, k1, k2, i0, i2, r2⟩ := Helds.at o2 ho
      simp only [Value.slice.injEq] at e1
      obtain ⟨rfl, -, rfl⟩ := e1
      clear ho
      go_wp2_with fail
      go_ret
      exact ⟨o.id, rfl, i0, h2'.mono (by omega), c1.trans c2⟩
    · go_wp2_with fail
      refine (pick g _ 8 _ h1' (by omega) (by omega) (by omega)).mono ?_
      rintro e w2 ⟨x, rfl, hx0, hx1, h2', c2⟩
      go_wp2_with fail
      go_ret
      exact ⟨x, rfl, I64.mk (by omega) (by omega), h2'.mono (by omega), c1.trans c2⟩

def DrawnId (w : World) (e : Ending) (w' : World) : Prop :=
  ∃ v os, ∃ x : Int, e = .returned (.tuple #[v, .int .i64 x]) ∧ os.length ≤ 16 ∧ Helds (fun j => w.heap.size ≤ j) w' v os ∧ I64 x ∧ New w w'

def DrawnBlock (w : World) (e : Ending) (w' : World) : Prop :=
  ∃ v os u xs, e = .returned (.tuple #[v, u]) ∧ os.length ≤ 16 ∧ Helds (fun j => w.heap.size ≤ j) w' v os ∧ Ints (fun j => w.heap.size ≤ j) w' u xs ∧ New w w'

end Go.Proofs.Ytfhnhggmoplmiaa
