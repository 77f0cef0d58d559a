/- The walk of FnStorePutOnce. -/
import Derived.Test.YtiakljmdongplaaStoreCalls
namespace Go.Proofs.Ytiakljmdongplaa
open Go.RowKit

set_option maxRecDepth 4000 in
set_option maxHeartbeats 4000000 in
theorem walkFnStorePutOnce (v : Value) (bs : List Int) (w : World) (h : Nums .u8 Any w v bs) :
    Calls Try.prog 11 #[v] w fun e w' => e = .returned (.bool true) ∧ New w w' := by
  have h0 := h
  obtain ⟨a, c, rfl, h1, ⟨h2, -⟩, -, -⟩ := h
  unfold maxLen at h2
  by_cases hl : 1048576 < bs.length
  · have hl' : (1048576 : Int) < bs.length := by omega
    go_enter Try.func11, Try.ntmps11
    go_wp2_with fail
    go_ret
    exact ⟨rfl, New.refl _⟩
  · have hl' : ¬ ((1048576 : Int) < bs.length) := by omega
    go_enter Try.func11, Try.ntmps11
    go_wp2_with fail
    refine (drawStorePut _ bs w h0).mono ?_
    rintro e w1 ⟨v1, os, u1, xs, rfl, hos, o1, x1, nn⟩
    obtain ⟨-, a1, c1, rfl, y1, y2, -⟩ := id o1
    obtain ⟨a2, c2, rfl, y3, ⟨y4, -⟩, -, -⟩ := id x1
    unfold maxLen at y2 y4
    rcases hr : putH xs os with _ | ⟨os2, k⟩
    · have Hr := Lib.hid hr
      clear hr
      go_wp2_with fail
      refine (implStorePut (.slice a1 os.length c1) (.slice a2 xs.length c2) os xs w1 o1 x1 |>.mono fun e w2 h => putsNone Hr.out h).mono ?_
      rintro e w2 ⟨v2, rfl, o2, n2⟩
      replace o1 := Recs.new o1 n2
      replace x1 := x1.new n2
      replace nn := nn.trans n2
      clear n2
      go_wp2_with fail
      refine (specStorePut (.slice a1 os.length c1) (.slice a2 xs.length c2) os xs w2 o1 x1 |>.mono fun e w2 h => readNone Hr.out h).mono ?_
      rintro e w3 ⟨v3, rfl, o3, n3⟩
      replace o1 := Recs.new o1 n3
      replace x1 := x1.new n3
      replace o2 := OwnRecs.new o2 n3
      replace nn := nn.trans n3
      clear n3
      go_wp2_with fail
      refine (sameStore _ _ [] [] w3 (OwnRecs.recs o2) o3).mono ?_
      rintro e w4 ⟨rfl, n4⟩
      replace o1 := Recs.new o1 n4
      replace x1 := x1.new n4
      replace o2 := OwnRecs.new o2 n4
      replace o3 := Recs.new o3 n4
      replace nn := nn.trans n4
      clear n4
      go_wp2_with fail
      refine (sameStore _ _ [] [] w4 (OwnRecs.recs o2) o3).mono ?_
      rintro e w5 ⟨rfl, n5⟩
      replace o1 := Recs.new o1 n5
      replace x1 := x1.new n5
      replace o2 := OwnRecs.new o2 n5
      replace o3 := Recs.new o3 n5
      replace nn := nn.trans n5
      clear n5
      go_wp2_with fail
      go_ret
      exact ⟨rfl, nn⟩
    · have Hr := Lib.hid hr
      clear hr
      go_wp2_with fail
      refine (implStorePut (.slice a1 os.length c1) (.slice a2 xs.length c2) os xs w1 o1 x1 |>.mono fun e w2 h => putsSome Hr.out h).mono ?_
      rintro e w2 ⟨v2, rfl, o2, n2⟩
      replace o1 := Recs.new o1 n2
      replace x1 := x1.new n2
      replace nn := nn.trans n2
      clear n2
      obtain ⟨a3, c3, rfl, q1, q2, -⟩ := OwnRecs.shape o2
      unfold maxLen at q2
      go_wp2_with fail
      refine (specStorePut (.slice a1 os.length c1) (.slice a2 xs.length c2) os xs w2 o1 x1 |>.mono fun e w2 h => readSome Hr.out h).mono ?_
      rintro e w3 ⟨v3, rfl, o3, n3⟩
      replace o1 := Recs.new o1 n3
      replace x1 := x1.new n3
      replace o2 := OwnRecs.new o2 n3
      replace nn := nn.trans n3
      clear n3
      have hkk : (k != k) = false := by simp
      go_wp2_with fail
      refine (sameStore _ _ os2 os2 w3 (OwnRecs.recs o2) o3).mono ?_
      rintro e w4 ⟨he, n4⟩
      replace o1 := Recs.new o1 n4
      replace x1 := x1.new n4
      replace o2 := OwnRecs.new o2 n4
      replace nn := nn.trans n4
      clear n4
      rw [decide_eq_true rfl] at he
      subst he
      obtain ⟨hk0, hk1⟩ := putH_id Hr.out
      have ik : I64 k := I64.mk (by omega) (by omega)
      rcases hr2 : putH xs os2 with _ | ⟨os3, j⟩
      · have Hr2 := Lib.hid hr2
        clear hr2
        go_wp2_with fail
        refine (implStorePut _ _ os2 xs w4 (OwnRecs.recs o2) x1 |>.mono fun e w2 h => putsNone Hr2.out h).mono ?_
        rintro e w5 ⟨v4, rfl, o4, n5⟩
        replace o1 := Recs.new o1 n5
        replace x1 := x1.new n5
        replace o2 := OwnRecs.new o2 n5
        replace nn := nn.trans n5
        clear n5
        go_wp2_with fail
        go_ret
        exact ⟨rfl, nn⟩
      · obtain ⟨rfl, hlen⟩ := law_putOnce Hr.out hr2
        have Hr2 := Lib.hid hr2
        clear hr2
        go_wp2_with fail
        refine (implStorePut _ _ os2 xs w4 (OwnRecs.recs o2) x1 |>.mono fun e w2 h => putsSome Hr2.out h).mono ?_
        rintro e w5 ⟨v4, rfl, o4, n5⟩
        replace o1 := Recs.new o1 n5
        replace x1 := x1.new n5
        replace o2 := OwnRecs.new o2 n5
        replace nn := nn.trans n5
        clear n5
        obtain ⟨a4, c4, rfl, z1, z2, -⟩ := OwnRecs.shape o4
        unfold maxLen at z2
        go_wp2_with fail
        go_ret
        exact ⟨rfl, nn⟩
end Go.Proofs.Ytiakljmdongplaa
