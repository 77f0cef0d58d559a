/- The walk of FnHoldDrop. -/
import Derived.Test.YtapobonfnjgnoaaDrawHold2
import Derived.Test.YtapobonfnjgnoaaSameHolds
import Derived.Test.YtapobonfnjgnoaaHoldLaw
namespace Go.Proofs.Ytapobonfnjgnoaa
open Go.RowKit

set_option maxRecDepth 4000 in
set_option maxHeartbeats 4000000 in
theorem walkFnHoldDrop (v : Value) (bs : List Int) (w : World) (h : Nums .u8 Any w v bs) :
    Calls Try.prog 6 #[v] w fun e w' => e = .returned (.bool true) ∧ New w w' := by
  have Hdraw := Lib.hid (drawHoldDrop v bs w h)
  obtain ⟨a, c, rfl, h1, ⟨h2, -⟩, -⟩ := h
  unfold maxLen at h2
  by_cases hbig : 1048576 < bs.length
  · have hd : (1048576 : Int) < (bs.length : Int) := by omega
    go_enter Try.func6, Try.ntmps6
    go_wp2_with fail
    go_ret
    exact ⟨rfl, New.refl _⟩
  have hd : ¬ ((1048576 : Int) < (bs.length : Int)) := by omega
  go_enter Try.func6, Try.ntmps6
  go_wp2_with fail
  refine Hdraw.out.mono ?_
  rintro e w1 ⟨v1, os, x, rfl, hx, hl, hund, ho, n1⟩
  have hsm : ∀ o ∈ os, HSm o := fun o ho => (hund o ho).sm
  have Hsm := Lib.hid hsm
  have nb := (New.refl w1).alloc (.cells #[.string ⟨x.snap.toArray⟩, .string ⟨x.tag.toArray⟩] 25)
  have hb := heap_alloc_new w1 (.cells #[.string ⟨x.snap.toArray⟩, .string ⟨x.tag.toArray⟩] 25)
  have c0 : (w1.alloc (.cells #[.string ⟨x.snap.toArray⟩, .string ⟨x.tag.toArray⟩] 25)).cell? ⟨w1.heap.size, 0, none⟩ = some (.string ⟨x.snap.toArray⟩) := by unfold World.cell?; rw [hb]; rfl
  have c1 : (w1.alloc (.cells #[.string ⟨x.snap.toArray⟩, .string ⟨x.tag.toArray⟩] 25)).cell? ⟨w1.heap.size, 1, none⟩ = some (.string ⟨x.tag.toArray⟩) := by unfold World.cell?; rw [hb]; rfl
  have ho2 := Recs.new ho nb
  have nn := n1.trans nb
  obtain ⟨-, av1, cv1, rfl, -⟩ := id ho
  clear hund hsm ho hb n1 nb
  go_wp2_with fail
  generalize w1.alloc (.cells #[.string ⟨x.snap.toArray⟩, .string ⟨x.tag.toArray⟩] 25) = w2 at *
  generalize w1.heap.size = g at *
  refine (implDrop _ os x w2 ho2 Hsm.out hx.sm).mono ?_
  intro e w3 hpost
  unfold HoldPost at hpost
  have Hsp := Lib.hid (fun (W : World) (n : New w2 W) => specDrop _ os x W (Recs.new ho2 n) Hsm.out (by omega))
  unfold HoldPost at Hsp
  rcases hrr : dropR os x with ⟨r, ok⟩
  rw [hrr] at hpost Hsp
  obtain ⟨v3, rfl, o3, n3⟩ := hpost
  obtain ⟨av3, cv3, rfl, -⟩ := o3.shape
  simp only at o3 Hsp
  have hsmr : ∀ o ∈ r, HSm o := fun o ho => by
    have h := (show HSm o by have hh : o ∈ (dropR os x).1 := (by rw [hrr]; exact ho); have h9 : o ∈ os := (by unfold dropR at hh; split at hh; exact (List.mem_filter.1 hh).1; simp at hh); exact Hsm.out o h9)
    exact h
  have Hsmr := Lib.hid hsmr
  have hr3 : Holds Any w3 _ r := (OwnRecs.recs o3).mono (fun _ _ _ => trivial)
  replace ho2 := Recs.new ho2 n3
  have c03 := n3.cell c0
  have c13 := n3.cell c1
  replace nn := nn.trans n3
  have Hrr := Lib.hid hrr
  clear hrr o3 c0 c1 hsmr
  go_wp2_with fail
  refine (Hsp.out w3 n3).mono ?_
  rintro e w4 ⟨v4, rfl, o4, n4⟩
  obtain ⟨av4, cv4, rfl, -⟩ := o4.shape
  have hr4 : Holds Any w4 _ r := (OwnRecs.recs o4).mono (fun _ _ _ => trivial)
  replace hr3 := Recs.new hr3 n4
  replace ho2 := Recs.new ho2 n4
  have c04 := n4.cell c03
  have c14 := n4.cell c13
  replace nn := nn.trans n4
  have hbb : (ok != ok) = false := by simp
  have hbb2 : (ok == ok) = true := by simp
  clear o4 n3 n4 c03 c13
  go_wp2_with fail
  refine (sameHolds _ _ r r w4 hr3 hr4).mono ?_
  rw [decide_eq_true rfl]
  rintro e w5 ⟨rfl, n5⟩
  replace hr3 := Recs.new hr3 n5
  replace hr4 := Recs.new hr4 n5
  replace ho2 := Recs.new ho2 n5
  have c05 := n5.cell c04
  have c15 := n5.cell c14
  replace nn := nn.trans n5
  clear n5 c04 c14
  rcases ok with _ | _
  · go_wp2_with fail
    refine (sameHolds _ _ r r w5 hr3 hr4).mono ?_
    rw [decide_eq_true rfl]
    rintro e w6 ⟨rfl, n6⟩
    go_wp2_with fail
    go_ret
    exact ⟨rfl, nn.trans n6⟩
  · have Hdrop := Lib.hid (fun (W : World) (n : New w5 W) => implDrop _ r x W (Recs.new hr3 n) Hsmr.out hx.sm)
    have Hput := Lib.hid (fun (W : World) (n : New w5 W) => implPut _ r x W (Recs.new hr3 n) Hsmr.out hx.sm)
    have Hval := Lib.hid (fun (W : World) (n : New w5 W) => implHolds _ r W (Recs.new hr3 n) Hsmr.out)
    unfold HoldPost at Hdrop Hput
    rw [drop_again Hrr.out] at Hdrop
    rw [drop_put Hrr.out] at Hput
    rw [drop_ok Hrr.out] at Hval
    clear hr4 hr3
    go_wp2_with fail
    refine (Hdrop.out _ (New.refl _)).mono ?_
    rintro e w6 ⟨v6, rfl, o6, n6⟩
    obtain ⟨av6, cv6, rfl, -⟩ := o6.shape
    replace ho2 := Recs.new ho2 n6
    have c06 := n6.cell c05
    have c16 := n6.cell c15
    clear o6
    go_wp2_with fail
    refine (Hput.out _ n6).mono ?_
    rintro e w7 ⟨v7, rfl, o7, n7⟩
    obtain ⟨av7, cv7, rfl, -⟩ := o7.shape
    have hr7 : Holds Any w7 _ os := (OwnRecs.recs o7).mono (fun _ _ _ => trivial)
    replace ho2 := Recs.new ho2 n7
    clear o7
    go_wp2_with fail
    refine (Hval.out _ (n6.trans n7)).mono ?_
    rintro e w8 ⟨rfl, n8⟩
    replace ho2 := Recs.new ho2 n8
    replace hr7 := Recs.new hr7 n8
    go_wp2_with fail
    refine (sameHolds _ _ os os w8 hr7 ho2).mono ?_
    rw [decide_eq_true rfl]
    rintro e w9 ⟨rfl, n9⟩
    go_wp2_with fail
    go_ret
    exact ⟨rfl, (((nn.trans n6).trans n7).trans n8).trans n9⟩
end Go.Proofs.Ytapobonfnjgnoaa
