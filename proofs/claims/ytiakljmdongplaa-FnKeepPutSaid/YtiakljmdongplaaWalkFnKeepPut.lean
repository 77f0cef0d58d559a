/- The walk of FnKeepPut. -/
import Derived.Test.YtiakljmdongplaaStoreCalls
namespace Go.Proofs.Ytiakljmdongplaa
open Go.RowKit

set_option maxRecDepth 4000 in
set_option maxHeartbeats 4000000 in
theorem walkFnKeepPut (v : Value) (bs : List Int) (w : World) (h : Nums .u8 Any w v bs) :
    Calls Try.prog 8 #[v] w fun e w' => e = .returned (.bool true) ∧ New w w' := by
  have h0 := h
  obtain ⟨a, c, rfl, h1, ⟨h2, -⟩, -, -⟩ := h
  unfold maxLen at h2
  by_cases hl : 1048576 < bs.length
  · have hl' : (1048576 : Int) < bs.length := by omega
    go_enter Try.func8, Try.ntmps8
    go_wp2_with fail
    go_ret
    exact ⟨rfl, New.refl _⟩
  · have hl' : ¬ ((1048576 : Int) < bs.length) := by omega
    go_enter Try.func8, Try.ntmps8
    go_wp2_with fail
    refine (drawStoreKeep _ bs w h0).mono ?_
    rintro e w1 ⟨v1, os, k, rfl, hos, o1, ik, nn⟩
    obtain ⟨-, a1, c1, rfl, y1, y2, -⟩ := id o1
    unfold maxLen at y2
    rcases hr : keepH k os with _ | os2
    · have Hr := Lib.hid hr
      clear hr
      go_wp2_with fail
      refine (implStoreKeep (.slice a1 os.length c1) os k w1 o1 ik |>.mono fun e w2 h => keepNone Hr.out h).mono ?_
      rintro e w2 ⟨v2, rfl, o2, n2⟩
      replace o1 := Recs.new o1 n2
      replace nn := nn.trans n2
      clear n2
      go_wp2_with fail
      refine (specStoreKeep (.slice a1 os.length c1) os k w2 o1 |>.mono fun e w2 h => keepNone Hr.out h).mono ?_
      rintro e w3 ⟨v3, rfl, o3, n3⟩
      replace o1 := Recs.new o1 n3
      replace o2 := OwnRecs.new o2 n3
      replace nn := nn.trans n3
      clear n3
      go_wp2_with fail
      refine (sameStore _ _ [] [] w3 (OwnRecs.recs o2) (OwnRecs.recs o3)).mono ?_
      rintro e w4 ⟨rfl, n4⟩
      replace o1 := Recs.new o1 n4
      replace o2 := OwnRecs.new o2 n4
      replace o3 := OwnRecs.new o3 n4
      replace nn := nn.trans n4
      clear n4
      go_wp2_with fail
      refine (sameStore _ _ [] [] w4 (OwnRecs.recs o2) (OwnRecs.recs o3)).mono ?_
      rintro e w5 ⟨rfl, n5⟩
      replace o1 := Recs.new o1 n5
      replace o2 := OwnRecs.new o2 n5
      replace o3 := OwnRecs.new o3 n5
      replace nn := nn.trans n5
      clear n5
      go_wp2_with fail
      go_ret
      exact ⟨rfl, nn⟩
    · have Hr := Lib.hid hr
      clear hr
      go_wp2_with fail
      refine (implStoreKeep (.slice a1 os.length c1) os k w1 o1 ik |>.mono fun e w2 h => keepSome Hr.out h).mono ?_
      rintro e w2 ⟨v2, rfl, o2, n2⟩
      replace o1 := Recs.new o1 n2
      replace nn := nn.trans n2
      clear n2
      obtain ⟨a3, c3, rfl, q1, q2, -⟩ := OwnRecs.shape o2
      unfold maxLen at q2
      go_wp2_with fail
      refine (specStoreKeep (.slice a1 os.length c1) os k w2 o1 |>.mono fun e w2 h => keepSome Hr.out h).mono ?_
      rintro e w3 ⟨v3, rfl, o3, n3⟩
      replace o1 := Recs.new o1 n3
      replace o2 := OwnRecs.new o2 n3
      replace nn := nn.trans n3
      clear n3
      go_wp2_with fail
      refine (sameStore _ _ os2 os2 w3 (OwnRecs.recs o2) (OwnRecs.recs o3)).mono ?_
      rintro e w4 ⟨he, n4⟩
      replace o1 := Recs.new o1 n4
      replace o2 := OwnRecs.new o2 n4
      replace nn := nn.trans n4
      clear n4
      rw [decide_eq_true rfl] at he
      subst he
      obtain ⟨xs, l1, l2⟩ := law_keepPut Hr.out
      have L1 := Lib.hid l1
      have L2 := Lib.hid l2
      clear l1 l2
      go_wp2_with fail
      refine (implStoreGet _ os k w4 o1 ik |>.mono fun e w2 h => getSome L1.out h).mono ?_
      rintro e w5 ⟨v4, rfl, x4, n5⟩
      replace o1 := Recs.new o1 n5
      replace o2 := OwnRecs.new o2 n5
      replace nn := nn.trans n5
      clear n5
      obtain ⟨a4, c4, rfl, -, -, -, -⟩ := id x4
      go_wp2_with fail
      refine (implStorePut _ _ os xs w5 o1 x4 |>.mono fun e w2 h => putsSome L2.out h).mono ?_
      rintro e w6 ⟨v5, rfl, o5, n6⟩
      replace o1 := Recs.new o1 n6
      replace o2 := OwnRecs.new o2 n6
      replace x4 := x4.new n6
      replace nn := nn.trans n6
      clear n6
      obtain ⟨a5, c5, rfl, -, -, -⟩ := OwnRecs.shape o5
      have hkk : (k == k) = true := by simp
      go_wp2_with fail
      refine (sameStore _ _ os2 os2 w6 (OwnRecs.recs o5) (OwnRecs.recs o2)).mono ?_
      rintro e w7 ⟨he, n7⟩
      replace o1 := Recs.new o1 n7
      replace o2 := OwnRecs.new o2 n7
      replace x4 := x4.new n7
      replace o5 := OwnRecs.new o5 n7
      replace nn := nn.trans n7
      clear n7
      rw [decide_eq_true rfl] at he
      subst he
      go_wp2_with fail
      go_ret
      exact ⟨rfl, nn⟩
end Go.Proofs.Ytiakljmdongplaa
