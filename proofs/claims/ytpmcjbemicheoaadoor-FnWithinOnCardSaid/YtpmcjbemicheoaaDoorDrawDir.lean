/- Walks of l91Dir and DrawPathWithin. -/
import Derived.Test.YtpmcjbemicheoaaDoorDrawPath
import Derived.Test.YtpmcjbemicheoaaDoorPath4
namespace Go.Proofs.YtpmcjbemicheoaaDoor
open Go.RowKit

set_option maxHeartbeats 400000 in
theorem drawDir (g m : Nat) (w : World) (h : Rd g w m) (hm : m ≤ 700000) :
    Calls Tryd.prog 20 #[.pointer (some ⟨g, 0, none⟩)] w (TxtPost g m 3 w) := by
  go_enter Tryd.func20, Tryd.ntmps20
  go_wp2_with fail
  refine (pick g m 4 w h (by omega) (by omega) (by omega)).mono ?_
  rintro e w1 ⟨r, rfl, hr0, hr1, h1, c1⟩
  by_cases hr : r = 0
  · subst hr
    go_wp2_with fail
    go_ret
    exact ⟨[], rfl, by simp, h1.mono (by omega), c1⟩
  · have hr' : (r == 0) = false := by simp [hr]
    go_wp2_with fail
    refine (drawPath g (m + 1) w1 h1 (by omega)).mono ?_
    rintro e w2 ⟨l, rfl, hl, h2, c2⟩
    unfold txt
    go_wp2_with fail
    go_ret
    exact ⟨l, rfl, hl, h2, c1.trans c2⟩

def TwoTxts (w : World) (e : Ending) (w' : World) : Prop := ∃ p d, e = .returned (.tuple #[txt p, txt d]) ∧ p.length ≤ 100 ∧ d.length ≤ 100 ∧ New w w'

theorem parentIf_le (l : List UInt8) : (parentIf l).length ≤ l.length := by
  unfold parentIf parentOf
  split
  · simp; omega
  · simp

set_option maxHeartbeats 400000 in
theorem drawPathWithin {S : Nat → Prop} (v : Value) (bs : List Int) (w : World) (h : Nums .u8 S w v bs) :
    Calls Tryd.prog 6 #[v] w (TwoTxts w) := by
  go_enter Tryd.func6, Tryd.ntmps6
  go_wp2_with fail
  refine (l6Open v bs w h).mono ?_
  rintro e w1 ⟨g, rfl, hg, hr, n1⟩
  go_wp2_with fail
  refine (drawPath g 0 w1 hr (by omega)).mono ?_
  rintro e w2 ⟨p, rfl, hp, hr2, c2⟩
  have n2 : New w w2 := n1.trans_chg c2 (fun k hk e => by omega)
  unfold txt
  go_wp2_with fail
  refine (pick g _ 2 w2 hr2 (by omega) (by omega) (by omega)).mono ?_
  rintro e w3 ⟨r, rfl, hr0, hr1, h3, c3⟩
  have n3 : New w w3 := n2.trans_chg c3 (fun k hk e => by omega)
  clear n2 c2 c3
  by_cases hr : r = 0
  · subst hr
    have hps : (⟨p.toArray⟩ : ByteArray).size ≤ 1048576 := by show p.toArray.size ≤ _; simp; omega
    have cp := specParent ⟨p.toArray⟩ w3 hps
    rw [show (⟨p.toArray⟩ : ByteArray).data.toList = p from rfl] at cp
    have hle := parentIf_le p
    have Cp := Lib.hid cp
    clear cp
    generalize parentIf p = d at *
    generalize pathOk p = ok at *
    go_wp2_with fail
    refine Cp.out.mono ?_
    rintro e w4 ⟨rfl, n4⟩
    unfold txt
    go_wp2_with fail
    go_ret2
    exact ⟨p, d, rfl, hp, by omega, n3.trans n4⟩
  · have hr' : (r == 0) = false := by simp [hr]
    go_wp2_with fail
    refine (drawDir g _ w3 h3 (by omega)).mono ?_
    rintro e w4 ⟨d, rfl, hd, h4, c4⟩
    unfold txt
    go_wp2_with fail
    go_ret2
    exact ⟨p, d, rfl, hp, hd, n3.trans_chg c4 (fun k hk e => by omega)⟩

end Go.Proofs.YtpmcjbemicheoaaDoor
