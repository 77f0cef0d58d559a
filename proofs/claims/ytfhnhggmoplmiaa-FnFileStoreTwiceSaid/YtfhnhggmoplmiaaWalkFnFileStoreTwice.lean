/- The walk of FnFileStoreTwice. -/
import Derived.Test.YtfhnhggmoplmiaaFileCalls
namespace Go.Proofs.Ytfhnhggmoplmiaa
open Go.RowKit

set_option maxRecDepth 4000 in
set_option maxHeartbeats 4000000 in
theorem walkFnFileStoreTwice (v : Value) (bs : List Int) (w : World) (h : Nums .u8 Any w v bs) :
    Calls Try.prog 9 #[v] w fun e w' => e = .returned (.bool true) ∧ New w w' := by
  have h0 := h
  obtain ⟨a, c, rfl, h1, ⟨h2, -⟩, -, -⟩ := h
  unfold maxLen at h2
  by_cases hl : 1048576 < bs.length
  · have hl' : (1048576 : Int) < bs.length := by omega
    go_enter Try.func9, Try.ntmps9
    go_wp2_with fail
    go_ret
    exact ⟨rfl, New.refl _⟩
  · have hl' : ¬ ((1048576 : Int) < bs.length) := by omega
    go_enter Try.func9, Try.ntmps9
    go_wp2_with fail
    refine (drawFileStore _ bs w h0).mono ?_
    rintro e w1 ⟨v1, os, u1, xs, rfl, hos, o1, x1, nn⟩
    obtain ⟨-, a1, c1, rfl, y1, y2, -⟩ := id o1
    obtain ⟨a2, c2, rfl, y3, ⟨y4, -⟩, -, -⟩ := id x1
    unfold maxLen at y2 y4
    rcases hr : fileStoreH xs os with _ | ⟨os2, ks⟩
    · have Hr := Lib.hid hr
      clear hr
      go_wp2_with fail
      refine (implFileStore (.slice a1 os.length c1) (.slice a2 xs.length c2) os xs w1 o1 x1 |>.mono fun e w2 h => fileNone Hr.out h).mono ?_
      rintro e w2 ⟨v2, t2, rfl, o2, i2, n2⟩
      replace o1 := Recs.new o1 n2
      replace x1 := x1.new n2
      replace nn := nn.trans n2
      clear n2
      go_wp2_with fail
      refine (specFileStore (.slice a1 os.length c1) (.slice a2 xs.length c2) os xs w2 o1 x1 |>.mono fun e w2 h => fileReadNone Hr.out h).mono ?_
      rintro e w3 ⟨v3, t3, rfl, o3, i3, n3⟩
      replace o1 := Recs.new o1 n3
      replace x1 := x1.new n3
      replace o2 := OwnRecs.new o2 n3
      replace i2 := i2.new n3
      replace nn := nn.trans n3
      clear n3
      go_wp2_with fail
      refine (sameInts _ _ [] [] w3 i2 i3).mono ?_
      rintro e w4 ⟨rfl, n4⟩
      replace n4 := n4.new
      replace o1 := Recs.new o1 n4
      replace x1 := x1.new n4
      replace o2 := OwnRecs.new o2 n4
      replace i2 := i2.new n4
      replace o3 := Recs.new o3 n4
      replace i3 := i3.new n4
      replace nn := nn.trans n4
      clear n4
      go_wp2_with fail
      refine (sameStore _ _ [] [] w4 (OwnRecs.recs o2) o3).mono ?_
      rintro e w5 ⟨rfl, n5⟩
      replace o1 := Recs.new o1 n5
      replace x1 := x1.new n5
      replace o2 := OwnRecs.new o2 n5
      replace i2 := i2.new n5
      replace o3 := Recs.new o3 n5
      replace i3 := i3.new n5
      replace nn := nn.trans n5
      clear n5
      go_wp2_with fail
      refine (sameInts _ _ [] [] w5 i2 i3).mono ?_
      rintro e w6 ⟨rfl, n6⟩
      replace n6 := n6.new
      replace o1 := Recs.new o1 n6
      replace x1 := x1.new n6
      replace o2 := OwnRecs.new o2 n6
      replace i2 := i2.new n6
      replace o3 := Recs.new o3 n6
      replace i3 := i3.new n6
      replace nn := nn.trans n6
      clear n6
      go_wp2_with fail
      refine (sameStore _ _ [] [] w6 (OwnRecs.recs o2) o3).mono ?_
      rintro e w7 ⟨rfl, n7⟩
      replace o1 := Recs.new o1 n7
      replace x1 := x1.new n7
      replace o2 := OwnRecs.new o2 n7
      replace i2 := i2.new n7
      replace o3 := Recs.new o3 n7
      replace i3 := i3.new n7
      replace nn := nn.trans n7
      clear n7
      go_wp2_with fail
      go_ret
      exact ⟨rfl, nn⟩
    · have Hr := Lib.hid hr
      clear hr
      go_wp2_with fail
      refine (implFileStore (.slice a1 os.length c1) (.slice a2 xs.length c2) os xs w1 o1 x1 |>.mono fun e w2 h => fileSome Hr.out h).mono ?_
      rintro e w2 ⟨v2, t2, rfl, o2, i2, n2⟩
      replace o1 := Recs.new o1 n2
      replace x1 := x1.new n2
      replace nn := nn.trans n2
      clear n2
      obtain ⟨a3, c3, rfl, q1, q2, -⟩ := OwnRecs.shape o2
      unfold maxLen at q2
      obtain ⟨a4, c4, rfl, q3, ⟨q4, -⟩, -, -⟩ := id i2
      unfold maxLen at q4
      go_wp2_with fail
      refine (specFileStore (.slice a1 os.length c1) (.slice a2 xs.length c2) os xs w2 o1 x1 |>.mono fun e w2 h => fileReadSome Hr.out h).mono ?_
      rintro e w3 ⟨v3, t3, rfl, o3, i3, n3⟩
      replace o1 := Recs.new o1 n3
      replace x1 := x1.new n3
      replace o2 := OwnRecs.new o2 n3
      replace i2 := i2.new n3
      replace nn := nn.trans n3
      clear n3
      go_wp2_with fail
      refine (sameInts _ _ ks ks w3 i2 i3).mono ?_
      rintro e w4 ⟨he, n4⟩
      replace n4 := n4.new
      replace o1 := Recs.new o1 n4
      replace x1 := x1.new n4
      replace o2 := OwnRecs.new o2 n4
      replace i2 := i2.new n4
      replace o3 := Recs.new o3 n4
      replace nn := nn.trans n4
      clear n4
      rw [decide_eq_true rfl] at he
      subst he
      go_wp2_with fail
      refine (sameStore _ _ os2 os2 w4 (OwnRecs.recs o2) o3).mono ?_
      rintro e w5 ⟨he, n5⟩
      replace o1 := Recs.new o1 n5
      replace x1 := x1.new n5
      replace o2 := OwnRecs.new o2 n5
      replace i2 := i2.new n5
      replace nn := nn.trans n5
      clear n5
      rw [decide_eq_true rfl] at he
      subst he
      rcases hr2 : fileStoreH xs os2 with _ | ⟨os3, ks3⟩
      · have Hr2 := Lib.hid hr2
        clear hr2
        go_wp2_with fail
        refine (implFileStore _ _ os2 xs w5 (OwnRecs.recs o2) x1 |>.mono fun e w2 h => fileNone Hr2.out h).mono ?_
        rintro e w6 ⟨v5, t5, rfl, o5, i5, n6⟩
        replace o1 := Recs.new o1 n6
        replace x1 := x1.new n6
        replace o2 := OwnRecs.new o2 n6
        replace i2 := i2.new n6
        replace nn := nn.trans n6
        clear n6
        obtain ⟨a5, c5, rfl, -, -, -⟩ := OwnRecs.shape o5
        obtain ⟨a6, c6, rfl, -, -, -, -⟩ := id i5
        go_wp2_with fail
        go_ret
        exact ⟨rfl, nn⟩
      · obtain ⟨rfl, hlen⟩ := law_fileTwice Hr.out hr2
        have Hr2 := Lib.hid hr2
        clear hr2
        go_wp2_with fail
        refine (implFileStore _ _ os2 xs w5 (OwnRecs.recs o2) x1 |>.mono fun e w2 h => fileSome Hr2.out h).mono ?_
        rintro e w6 ⟨v5, t5, rfl, o5, i5, n6⟩
        replace o1 := Recs.new o1 n6
        replace x1 := x1.new n6
        replace o2 := OwnRecs.new o2 n6
        replace i2 := i2.new n6
        replace nn := nn.trans n6
        clear n6
        obtain ⟨a5, c5, rfl, z1, z2, -⟩ := OwnRecs.shape o5
        unfold maxLen at z2
        obtain ⟨a6, c6, rfl, -, -, -, -⟩ := id i5
        go_wp2_with fail
        refine (sameInts _ _ ks3 ks3 w6 i5 i2).mono ?_
        rintro e w7 ⟨he, n7⟩
        replace n7 := n7.new
        replace o1 := Recs.new o1 n7
        replace x1 := x1.new n7
        replace o2 := OwnRecs.new o2 n7
        replace i2 := i2.new n7
        replace o5 := OwnRecs.new o5 n7
        replace i5 := i5.new n7
        replace nn := nn.trans n7
        clear n7
        rw [decide_eq_true rfl] at he
        subst he
        go_wp2_with fail
        go_ret
        exact ⟨rfl, nn⟩
end Go.Proofs.Ytfhnhggmoplmiaa
