/- The walk of FnGet. -/
import Derived.Test.YtiakljmdongplaaStoreCalls
namespace Go.Proofs.Ytiakljmdongplaa
open Go.RowKit

set_option maxRecDepth 4000 in
set_option maxHeartbeats 4000000 in
theorem walkFnGet (v : Value) (bs : List Int) (w : World) (h : Nums .u8 Any w v bs) :
    Calls Try.prog 5 #[v] w fun e w' => e = .returned (.bool true) ∧ New w w' := by
  have h0 := h
  obtain ⟨a, c, rfl, h1, ⟨h2, -⟩, -, -⟩ := h
  unfold maxLen at h2
  by_cases hl : 1048576 < bs.length
  · have hl' : (1048576 : Int) < bs.length := by omega
    go_enter Try.func5, Try.ntmps5
    go_wp2_with fail
    go_ret
    exact ⟨rfl, New.refl _⟩
  · have hl' : ¬ ((1048576 : Int) < bs.length) := by omega
    go_enter Try.func5, Try.ntmps5
    go_wp2_with fail
    refine (drawStoreGet _ bs w h0).mono ?_
    rintro e w1 ⟨v1, os, k, rfl, hos, o1, ik, nn⟩
    obtain ⟨-, a1, c1, rfl, y1, y2, -⟩ := id o1
    unfold maxLen at y2
    rcases hr : getH k os with _ | xs
    · have Hr := Lib.hid hr
      clear hr
      go_wp2_with fail
      refine (implStoreGet (.slice a1 os.length c1) os k w1 o1 ik |>.mono fun e w2 h => getNone Hr.out h).mono ?_
      rintro e w2 ⟨v2, rfl, x2, n2⟩
      replace o1 := Recs.new o1 n2
      replace nn := nn.trans n2
      clear n2
      go_wp2_with fail
      refine (specStoreGet (.slice a1 os.length c1) os k w2 o1 |>.mono fun e w2 h => getNone Hr.out h).mono ?_
      rintro e w3 ⟨v3, rfl, x3, n3⟩
      replace o1 := Recs.new o1 n3
      replace x2 := x2.new n3
      replace nn := nn.trans n3
      clear n3
      go_wp2_with fail
      refine (sameInts _ _ [] [] w3 x2 x3).mono ?_
      rintro e w4 ⟨rfl, n4⟩
      replace n4 := n4.new
      replace o1 := Recs.new o1 n4
      replace x2 := x2.new n4
      replace x3 := x3.new n4
      replace nn := nn.trans n4
      clear n4
      go_wp2_with fail
      refine (sameInts _ _ [] [] w4 x2 x3).mono ?_
      rintro e w5 ⟨rfl, n5⟩
      replace n5 := n5.new
      replace o1 := Recs.new o1 n5
      replace x2 := x2.new n5
      replace x3 := x3.new n5
      replace nn := nn.trans n5
      clear n5
      go_wp2_with fail
      go_ret
      exact ⟨rfl, nn⟩
    · have Hr := Lib.hid hr
      clear hr
      go_wp2_with fail
      refine (implStoreGet (.slice a1 os.length c1) os k w1 o1 ik |>.mono fun e w2 h => getSome Hr.out h).mono ?_
      rintro e w2 ⟨v2, rfl, x2, n2⟩
      replace o1 := Recs.new o1 n2
      replace nn := nn.trans n2
      clear n2
      obtain ⟨a3, c3, rfl, -, -, -, -⟩ := id x2
      go_wp2_with fail
      refine (specStoreGet (.slice a1 os.length c1) os k w2 o1 |>.mono fun e w2 h => getSome Hr.out h).mono ?_
      rintro e w3 ⟨v3, rfl, x3, n3⟩
      replace o1 := Recs.new o1 n3
      replace x2 := x2.new n3
      replace nn := nn.trans n3
      clear n3
      go_wp2_with fail
      refine (sameInts _ _ xs xs w3 x2 x3).mono ?_
      rintro e w4 ⟨he, n4⟩
      replace n4 := n4.new
      replace o1 := Recs.new o1 n4
      replace x2 := x2.new n4
      replace nn := nn.trans n4
      clear n4
      rw [decide_eq_true rfl] at he
      subst he
      obtain ⟨l1, l2⟩ := law_get Hr.out
      have L1 := Lib.hid l1
      have L2 := Lib.hid l2
      clear l1 l2
      rcases hr2 : putH xs os with _ | ⟨os3, j⟩
      · have Hr2 := Lib.hid hr2
        clear hr2
        go_wp2_with fail
        refine (implStorePut _ _ os xs w4 o1 x2 |>.mono fun e w2 h => putsNone Hr2.out h).mono ?_
        rintro e w5 ⟨v4, rfl, o4, n5⟩
        replace o1 := Recs.new o1 n5
        replace x2 := x2.new n5
        replace nn := nn.trans n5
        clear n5
        go_wp2_with fail
        refine (implBlock _ xs w5 x2).mono ?_
        rintro e w6 ⟨he, rfl⟩
        rw [L1.out] at he
        subst he
        go_wp2_with fail
        go_ret
        exact ⟨rfl, nn⟩
      · have Hr2 := Lib.hid hr2
        obtain rfl := L2.out _ _ hr2
        clear hr2
        go_wp2_with fail
        refine (implStorePut _ _ os xs w4 o1 x2 |>.mono fun e w2 h => putsSome Hr2.out h).mono ?_
        rintro e w5 ⟨v4, rfl, o4, n5⟩
        replace o1 := Recs.new o1 n5
        replace x2 := x2.new n5
        replace nn := nn.trans n5
        clear n5
        go_wp2_with fail
        refine (implBlock _ xs w5 x2).mono ?_
        rintro e w6 ⟨he, rfl⟩
        rw [L1.out] at he
        subst he
        go_wp2_with fail
        go_ret
        exact ⟨rfl, nn⟩
end Go.Proofs.Ytiakljmdongplaa
