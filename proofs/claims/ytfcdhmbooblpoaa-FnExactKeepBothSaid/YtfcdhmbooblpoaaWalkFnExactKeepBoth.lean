/- The walk of FnExactKeepBoth. -/
import Derived.Test.YtfcdhmbooblpoaaBothLaw
namespace Go.Proofs.Ytfcdhmbooblpoaa
open Go.RowKit

set_option maxHeartbeats 2000000 in
theorem walkFnExactKeepBoth (v : Value) (xs : List Int) (u : Value) (ys : List Int) (w : World) (h : Ints Any w v xs) (h' : Ints Any w u ys) :
    Calls Try.prog 12 #[v, u] w fun e w' => e = .returned (.bool true) ∧ New w w' := by
  have h0 := h
  have h0' := h'
  obtain ⟨a, c, rfl, h1, ⟨h2, -⟩, h3, h4⟩ := h
  obtain ⟨b, d, rfl, g1, ⟨g2, -⟩, g3, g4⟩ := h'
  unfold maxLen at h2 g2
  clear h4 h3 g3 g4
  by_cases hl : 1048576 < xs.length
  · have hl' : (1048576 : Int) < xs.length := by omega
    go_enter Try.func12, Try.ntmps12
    go_wp2_with fail
    go_ret
    exact ⟨rfl, New.refl _⟩
  · have hl' : ¬ ((1048576 : Int) < xs.length) := by omega
    by_cases hly : 1048576 < ys.length
    · have hly' : (1048576 : Int) < ys.length := by omega
      go_enter Try.func12, Try.ntmps12
      go_wp2_with fail
      go_ret
      exact ⟨rfl, New.refl _⟩
    have hly' : ¬ ((1048576 : Int) < ys.length) := by omega
    have hrl := both_len xs ys
    go_enter Try.func12, Try.ntmps12
    go_wp2_with fail
    refine (toInts _ xs w h0 (by omega)).mono ?_
    rintro e w1 ⟨v1, rfl, n1, o1⟩
    go_wp2_with fail
    refine (toInts _ ys _ (h0'.new n1) (by omega)).mono ?_
    rintro e w1b ⟨v1b, rfl, n1b, o1b⟩
    replace o1 := o1.new n1b
    replace n1 := n1.trans n1b
    have s12 := n1.size
    go_wp2_with fail
    refine (specKeepBoth _ _ xs ys _ o1.nums o1b.nums).mono ?_
    rw [both_eq]
    have himp := fun (S T : Nat → Prop) (u u' : Value) (W : World) (H : Ints S W u xs) (H' : Ints T W u' ys) => keepBoth u u' xs ys W H H'
    have Himp := Lib.hid himp
    clear himp
    generalize both xs ys = r at hrl Himp ⊢
    rintro e w2 ⟨v2, rfl, o2, n2⟩
    have nn := n1.trans n2
    clear o1 o1b n1b
    go_wp2_with fail
    refine (toInts _ xs _ (h0.new nn) (by omega)).mono ?_
    rintro e w3 ⟨v3, rfl, n3, o3⟩
    have s23 := n2.size
    have s34 := n3.size
    replace o2 := o2.old.new n3
    replace o3 := o3.old
    replace nn := nn.trans n3
    go_wp2_with fail
    refine (toInts _ ys _ (h0'.new nn) (by omega)).mono ?_
    rintro e w3b ⟨v3b, rfl, n3b, o3b⟩
    have s3b := n3b.size
    replace o2 := o2.new n3b
    replace o3 := o3.new n3b
    replace o3b := o3b.old
    replace nn := nn.trans n3b
    go_wp2_with fail
    refine (Himp.out _ _ _ _ _ o3.nums o3b.nums).mono ?_
    rintro e w4 ⟨v4, rfl, o4, n4⟩
    replace o2 := o2.new n4
    replace o3 := o3.new n4
    replace o3b := o3b.new n4
    replace nn := nn.trans n4
    replace o4 := o4.old
    have s45 := n4.size
    clear n1 n2 n3 n4 n3b
    go_wp2_with fail
    refine (eqInts _ _ r r _ o4.nums o2.nums).mono ?_
    rintro e w5 ⟨rfl, d5⟩
    replace d5 := d5.new
    replace o2 := o2.new d5
    replace o3 := o3.new d5
    replace o3b := o3b.new d5
    replace o4 := o4.new d5
    replace nn := nn.trans d5
    go_wp2_with fail
    refine (toInts _ xs _ (h0.new nn) (by omega)).mono ?_
    rintro e w6 ⟨v6, rfl, n6, o6⟩
    replace o2 := o2.new n6
    replace o3 := o3.new n6
    replace o3b := o3b.new n6
    replace o4 := o4.new n6
    replace nn := nn.trans n6
    go_wp2_with fail
    refine (eqInts _ _ xs xs _ o3.nums o6.nums).mono ?_
    rintro e w7 ⟨rfl, d7⟩
    replace d7 := d7.new
    replace o2 := o2.new d7
    replace o3 := o3.new d7
    replace o3b := o3b.new d7
    replace o4 := o4.new d7
    replace nn := nn.trans d7
    clear o6 n6 d7
    go_wp2_with fail
    refine (toInts _ ys _ (h0'.new nn) (by omega)).mono ?_
    rintro e w6 ⟨v6b, rfl, n6, o6⟩
    replace o2 := o2.new n6
    replace o3 := o3.new n6
    replace o3b := o3b.new n6
    replace o4 := o4.new n6
    replace nn := nn.trans n6
    go_wp2_with fail
    refine (eqInts _ _ ys ys _ o3b.nums o6.nums).mono ?_
    rintro e w7 ⟨rfl, d7⟩
    replace d7 := d7.new
    replace o2 := o2.new d7
    replace o3 := o3.new d7
    replace o3b := o3b.new d7
    replace o4 := o4.new d7
    replace nn := nn.trans d7
    clear o6 n6 d7
    go_wp2_with fail
    refine (markInts _ xs 1 _ o3 (by omega) (by omega) (by omega)).mono ?_
    rintro e w8 ⟨rfl, c8, o8⟩
    have b3 := o3.lt
    replace o2 := o2.chg c8 (fun k _ hk e => by have := (b3 k e).2; omega)
    replace o3b := o3b.chg c8 (fun k _ hk e => by have := (b3 k e).2; omega)
    replace o4 := o4.chg c8 (fun k _ hk e => by have := (b3 k e).2; omega)
    replace nn := nn.trans_chg c8 (fun k hk e => by have := (b3 k e).2; omega)
    clear c8 o3 o8 b3
    go_wp2_with fail
    refine (markInts _ ys _ _ o3b (by omega) (by omega) (by omega)).mono ?_
    rintro e w8 ⟨rfl, c8, o8⟩
    have b3 := o3b.lt
    replace o2 := o2.chg c8 (fun k _ hk e => by have := (b3 k e).2; omega)
    replace o4 := o4.chg c8 (fun k _ hk e => by have := (b3 k e).2; omega)
    replace nn := nn.trans_chg c8 (fun k hk e => by have := (b3 k e).2; omega)
    clear c8 o3b o8 b3
    go_wp2_with fail
    refine (eqInts _ _ r r _ o4.nums o2.nums).mono ?_
    rintro e w9 ⟨rfl, d9⟩
    replace d9 := d9.new
    replace o2 := o2.new d9
    replace o4 := o4.new d9
    replace nn := nn.trans d9
    go_wp2_with fail
    refine (markInts _ r 1 _ o4 (by omega) (by omega) (by omega)).mono ?_
    rintro e w10 ⟨rfl, c10, o10⟩
    have b4 := o4.lt
    replace o2 := o2.chg c10 (fun k _ hk e => by have := (b4 k e).2; omega)
    replace nn := nn.trans_chg c10 (fun k hk e => by have := (b4 k e).2; omega)
    clear c10 o4 b4 d9
    go_wp2_with fail
    refine (heldInts _ r.length 1 _ o10.nums (by omega) (by omega) (by omega)).mono ?_
    rintro e w11 ⟨rfl, rfl⟩
    go_wp2_with fail
    refine (toInts _ xs _ (h0.new nn) (by omega)).mono ?_
    rintro e w12 ⟨v12, rfl, n12, o12⟩
    replace o2 := o2.new n12
    replace o10 := o10.new n12
    replace nn := nn.trans n12
    go_wp2_with fail
    refine (toInts _ ys _ (h0'.new nn) (by omega)).mono ?_
    rintro e w12b ⟨v12b, rfl, n12b, o12b⟩
    replace o2 := o2.new n12b
    replace o10 := o10.new n12b
    replace o12 := o12.new n12b
    replace nn := nn.trans n12b
    go_wp2_with fail
    refine (Himp.out _ _ _ _ _ o12.nums o12b.nums).mono ?_
    rintro e w13 ⟨v13, rfl, o13, n13⟩
    replace o2 := o2.new n13
    replace o10 := o10.new n13
    replace nn := nn.trans n13
    clear o12 n12 n13 o12b n12b
    go_wp2_with fail
    refine (eqInts _ _ r r _ o13.nums o2.nums).mono ?_
    rintro e w14 ⟨rfl, d14⟩
    replace d14 := d14.new
    replace o10 := o10.new d14
    replace nn := nn.trans d14
    go_wp2_with fail
    refine (heldInts _ r.length 1 _ o10.nums (by omega) (by omega) (by omega)).mono ?_
    rintro e w15 ⟨rfl, rfl⟩
    go_wp2_with fail
    go_ret
    exact ⟨rfl, nn⟩

end Go.Proofs.Ytfcdhmbooblpoaa
