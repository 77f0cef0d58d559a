/- The walk of FnExactFileCut. -/
import Derived.Test.YtepoaoimappcbaaCut
namespace Go.Proofs.Ytepoaoimappcbaa
open Go.RowKit

set_option maxHeartbeats 1000000 in
theorem walkFnExactFileCut (v : Value) (xs : List Int) (w : World) (h : Ints Any w v xs) :
    Calls Try.prog 3 #[v] w fun e w' => e = .returned (.bool true) ∧ New w w' := by
  have h0 := h
  obtain ⟨a, c, rfl, h1, ⟨h2, -⟩, h3, h4⟩ := h
  unfold maxLen at h2
  clear h4 h3
  by_cases hl : 1048576 < xs.length
  · have hl' : (1048576 : Int) < xs.length := by omega
    go_enter Try.func3, Try.ntmps3
    go_wp2_with fail
    go_ret
    exact ⟨rfl, New.refl _⟩
  · have hl' : ¬ ((1048576 : Int) < xs.length) := by omega
    have hrl : total (cutOf xs) ≤ 1048576 := by
      unfold cutOf
      split
      · rw [cuts_total]; omega
      · simp [total]
    go_enter Try.func3, Try.ntmps3
    go_wp2_with fail
    refine (toInts _ xs w h0 (by omega)).mono ?_
    rintro e w1 ⟨v1, rfl, n1, o1⟩
    go_wp2_with fail
    refine (specCut _ xs _ o1.nums).mono ?_
    have himp := fun (S : Nat → Prop) (u : Value) (W : World) (H : Ints S W u xs) => implCut u xs W H
    have Himp := Lib.hid himp
    clear himp
    generalize cutOf xs = r at hrl Himp ⊢
    generalize fileOk xs = ok at Himp ⊢
    have hbb : (ok != ok) = false := by simp
    rintro e w2 ⟨v2, rfl, o2, n2⟩
    have nn := n1.trans n2
    clear o1
    go_wp2_with fail
    refine (toInts _ xs _ (h0.new nn) (by omega)).mono ?_
    rintro e w3 ⟨v3, rfl, n3, o3⟩
    have s12 := n1.size
    have s23 := n2.size
    have s34 := n3.size
    replace o2 := o2.old.new n3
    replace o3 := o3.old
    replace nn := nn.trans n3
    go_wp2_with fail
    refine (Himp.out _ _ _ o3.nums).mono ?_
    rintro e w4 ⟨v4, rfl, o4, n4⟩
    replace o2 := o2.new n4
    replace o3 := o3.new n4
    replace nn := nn.trans n4
    replace o4 := o4.old
    have s45 := n4.size
    clear n1 n2 n3 n4
    go_wp2_with fail
    refine (eqIntSS _ _ r r _ o4 o2).mono ?_
    rintro e w5 ⟨rfl, d5⟩
    replace d5 := d5.new
    replace o2 := o2.new d5
    replace o3 := o3.new d5
    replace o4 := o4.new d5
    replace nn := nn.trans d5
    go_wp2_with fail
    refine (toInts _ xs _ (h0.new nn) (by omega)).mono ?_
    rintro e w6 ⟨v6, rfl, n6, o6⟩
    replace o2 := o2.new n6
    replace o3 := o3.new n6
    replace o4 := o4.new n6
    replace nn := nn.trans n6
    go_wp2_with fail
    refine (eqInts _ _ xs xs _ o3.nums o6.nums).mono ?_
    rintro e w7 ⟨rfl, d7⟩
    replace d7 := d7.new
    replace o2 := o2.new d7
    replace o3 := o3.new d7
    replace o4 := o4.new d7
    replace nn := nn.trans d7
    clear o6 n6 d7 d5
    go_wp2_with fail
    refine (markInts _ xs 1 _ o3 (by omega) (by omega) (by omega)).mono ?_
    rintro e w8 ⟨rfl, c8, o8⟩
    have b3 := o3.lt
    replace o2 := o2.chg c8 (fun k _ hk e => by have := (b3 k e).2; omega)
    replace o4 := o4.chg c8 (fun k _ hk e => by have := (b3 k e).2; omega)
    replace nn := nn.trans_chg c8 (fun k hk e => by have := (b3 k e).2; omega)
    clear c8 o3 o8 b3
    have hk0 : ¬ (1 + (xs.length : Int) < 0) := by omega
    go_wp2_with fail
    refine (eqIntSS _ _ r r _ o4 o2).mono ?_
    rintro e w9 ⟨rfl, d9⟩
    replace d9 := d9.new
    replace o2 := o2.new d9
    replace o4 := o4.new d9
    replace nn := nn.trans d9
    go_wp2_with fail
    refine (markIntSS _ r 1 _ o4 (by omega) (by omega) (by omega)).mono ?_
    rintro e w10 ⟨rfl, c10, o10⟩
    replace o2 := o2.chg c10 (fun k _ hk e => by omega)
    replace nn := nn.trans_chg c10 (fun k hk e => by omega)
    clear c10 o4 d9
    go_wp2_with fail
    refine (heldIntSS _ r 1 _ o10 (by omega) (by omega) (by omega)).mono ?_
    rintro e w11 ⟨rfl, rfl⟩
    have hm0 : ¬ (1 + (total r : Int) < 0) := by omega
    go_wp2_with fail
    refine (toInts _ xs _ (h0.new nn) (by omega)).mono ?_
    rintro e w12 ⟨v12, rfl, n12, o12⟩
    replace o2 := o2.new n12
    replace o10 := o10.new n12
    replace nn := nn.trans n12
    go_wp2_with fail
    refine (Himp.out _ _ _ o12.nums).mono ?_
    rintro e w13 ⟨v13, rfl, o13, n13⟩
    replace o2 := o2.new n13
    replace o10 := o10.new n13
    replace nn := nn.trans n13
    clear o12 n12 n13
    go_wp2_with fail
    refine (eqIntSS _ _ r r _ o13 o2).mono ?_
    rintro e w14 ⟨rfl, d14⟩
    replace d14 := d14.new
    replace o10 := o10.new d14
    replace nn := nn.trans d14
    go_wp2_with fail
    refine (heldIntSS _ r 1 _ o10 (by omega) (by omega) (by omega)).mono ?_
    rintro e w15 ⟨rfl, rfl⟩
    go_wp2_with fail
    go_ret
    exact ⟨rfl, nn⟩

end Go.Proofs.Ytepoaoimappcbaa
