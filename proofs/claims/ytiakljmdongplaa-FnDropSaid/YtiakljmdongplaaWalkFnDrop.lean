/- The walk of FnDrop. -/
import Derived.Test.YtiakljmdongplaaStoreCalls
namespace Go.Proofs.Ytiakljmdongplaa
open Go.RowKit

set_option maxRecDepth 4000 in
set_option maxHeartbeats 4000000 in
theorem walkFnDrop (v : Value) (bs : List Int) (w : World) (h : Nums .u8 Any w v bs) :
    Calls Try.prog 6 #[v] w fun e w' => e = .returned (.bool true) ∧ New w w' := by
  have h0 := h
  obtain ⟨a, c, rfl, h1, ⟨h2, -⟩, -, -⟩ := h
  unfold maxLen at h2
  by_cases hl : 1048576 < bs.length
  · have hl' : (1048576 : Int) < bs.length := by omega
    go_enter Try.func6, Try.ntmps6
    go_wp2_with fail
    go_ret
    exact ⟨rfl, New.refl _⟩
  · have hl' : ¬ ((1048576 : Int) < bs.length) := by omega
    go_enter Try.func6, Try.ntmps6
    go_wp2_with fail
    refine (drawStoreDrop _ bs w h0).mono ?_
    rintro e w1 ⟨v1, os, k, rfl, hos, o1, ik, nn⟩
    obtain ⟨-, a1, c1, rfl, y1, y2, -⟩ := id o1
    unfold maxLen at y2
    rcases hr : dropH k os with _ | os2
    · have Hr := Lib.hid hr
      clear hr
      go_wp2_with fail
      refine (implStoreDrop (.slice a1 os.length c1) os k w1 o1 ik |>.mono fun e w2 h => keepNone Hr.out h).mono ?_
      rintro e w2 ⟨v2, rfl, o2, n2⟩
      replace o1 := Recs.new o1 n2
      replace nn := nn.trans n2
      clear n2
      go_wp2_with fail
      refine (specStoreDrop (.slice a1 os.length c1) os k w2 o1 |>.mono fun e w2 h => keepNone Hr.out h).mono ?_
      rintro e w3 ⟨v3, rfl, o3, n3⟩
      replace o1 := Recs.new o1 n3
      replace o2 := OwnRecs.new o2 n3
      replace nn := nn.trans n3
      clear n3
      go_wp2_with fail
      refine (sameStore _ _ [] [] w3 (OwnRecs.recs o2) (OwnRecs.recs o3)).mono ?_
      rintro e w4 ⟨rfl, n4⟩
      replace o1 := Recs.new o1 n4
      replace o2 := OwnRecs.new o2 n4
      replace o3 := OwnRecs.new o3 n4
      replace nn := nn.trans n4
      clear n4
      go_wp2_with fail
      refine (sameStore _ _ [] [] w4 (OwnRecs.recs o2) (OwnRecs.recs o3)).mono ?_
      rintro e w5 ⟨rfl, n5⟩
      replace o1 := Recs.new o1 n5
      replace o2 := OwnRecs.new o2 n5
      replace o3 := OwnRecs.new o3 n5
      replace nn := nn.trans n5
      clear n5
      go_wp2_with fail
      go_ret
      exact ⟨rfl, nn⟩
    · have Hr := Lib.hid hr
      clear hr
      go_wp2_with fail
      refine (implStoreDrop (.slice a1 os.length c1) os k w1 o1 ik |>.mono fun e w2 h => keepSome Hr.out h).mono ?_
      rintro e w2 ⟨v2, rfl, o2, n2⟩
      replace o1 := Recs.new o1 n2
      replace nn := nn.trans n2
      clear n2
      obtain ⟨a3, c3, rfl, q1, q2, -⟩ := OwnRecs.shape o2
      unfold maxLen at q2
      go_wp2_with fail
      refine (specStoreDrop (.slice a1 os.length c1) os k w2 o1 |>.mono fun e w2 h => keepSome Hr.out h).mono ?_
      rintro e w3 ⟨v3, rfl, o3, n3⟩
      replace o1 := Recs.new o1 n3
      replace o2 := OwnRecs.new o2 n3
      replace nn := nn.trans n3
      clear n3
      go_wp2_with fail
      refine (sameStore _ _ os2 os2 w3 (OwnRecs.recs o2) (OwnRecs.recs o3)).mono ?_
      rintro e w4 ⟨he, n4⟩
      replace o1 := Recs.new o1 n4
      replace o2 := OwnRecs.new o2 n4
      replace nn := nn.trans n4
      clear n4
      rw [decide_eq_true rfl] at he
      subst he
      obtain ⟨l1, l2, l3⟩ := law_drop Hr.out
      have L1 := Lib.hid l1
      have L2 := Lib.hid l2
      have L3 := Lib.hid l3
      have hub2 := usesH_bound (dropH_cases Hr.out).1 k
      clear l1 l2 l3
      go_wp2_with fail
      refine (usesOf _ os k w4 o1).mono ?_
      rintro e w5 ⟨rfl, rfl⟩
      go_wp2_with fail
      refine (implStoreGet _ os2 k w4 (OwnRecs.recs o2) ik).mono ?_
      rintro e w5 ⟨v4, rfl, x4, n5⟩
      replace o1 := Recs.new o1 n5
      replace o2 := OwnRecs.new o2 n5
      replace nn := nn.trans n5
      clear n5
      rw [L3.out]
      clear x4
      go_wp2_with fail
      refine (implStoreValid _ os2 w5 (OwnRecs.recs o2)).mono ?_
      rintro e w6 ⟨he, n6⟩
      replace o1 := Recs.new o1 n6
      replace o2 := OwnRecs.new o2 n6
      replace nn := nn.trans n6
      clear n6
      rw [L1.out] at he
      subst he
      go_wp2_with fail
      refine (usesOf _ os2 k w6 (OwnRecs.recs o2)).mono ?_
      rintro e w7 ⟨rfl, rfl⟩
      have hue := L2.out
      generalize usesH k os2 = U2 at *
      generalize usesH k os = U at *
      subst hue
      by_cases hU : 1 < U
      all_goals
        simp only [hU]
        go_wp2_with fail
        go_ret
        exact ⟨by simp, nn⟩
end Go.Proofs.Ytiakljmdongplaa
