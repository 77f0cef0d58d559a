/- The walk of FnFileStoreMany. -/
import Derived.Test.YtfhnhggmoplmiaaFileCalls
namespace Go.Proofs.Ytfhnhggmoplmiaa
open Go.RowKit

set_option maxRecDepth 4000 in
set_option maxHeartbeats 4000000 in
theorem walkFnFileStoreMany (v : Value) (bs : List Int) (w : World) (h : Nums .u8 Any w v bs) :
    Calls Try.prog 10 #[v] w fun e w' => e = .returned (.bool true) ∧ New w w' := by
  have h0 := h
  obtain ⟨a, c, rfl, h1, ⟨h2, -⟩, -, -⟩ := h
  unfold maxLen at h2
  by_cases hl : 1048576 < bs.length
  · have hl' : (1048576 : Int) < bs.length := by omega
    go_enter Try.func10, Try.ntmps10
    go_wp2_with fail
    go_ret
    exact ⟨rfl, New.refl _⟩
  · have hl' : ¬ ((1048576 : Int) < bs.length) := by omega
    go_enter Try.func10, Try.ntmps10
    go_wp2_with fail
    refine (drawFileStore _ bs w h0).mono ?_
    rintro e w1 ⟨v1, os, u1, xs, rfl, hos, o1, x1, nn⟩
    obtain ⟨-, a1, c1, rfl, y1, y2, -⟩ := id o1
    obtain ⟨a2, c2, rfl, y3, ⟨y4, -⟩, -, -⟩ := id x1
    unfold maxLen at y2 y4
    rcases hr : fileStoreH xs os with _ | ⟨os2, ks⟩
    · have Hr := Lib.hid hr
      clear hr
      go_wp2_with fail
      refine (implFileStore (.slice a1 os.length c1) (.slice a2 xs.length c2) os xs w1 o1 x1 |>.mono fun e w2 h => fileNone Hr.out h).mono ?_
      rintro e w2 ⟨v2, t2, rfl, o2, i2, n2⟩
      replace o1 := Recs.new o1 n2
      replace x1 := x1.new n2
      replace nn := nn.trans n2
      clear n2
      go_wp2_with fail
      refine (specFileStore (.slice a1 os.length c1) (.slice a2 xs.length c2) os xs w2 o1 x1 |>.mono fun e w2 h => fileReadNone Hr.out h).mono ?_
      rintro e w3 ⟨v3, t3, rfl, o3, i3, n3⟩
      replace o1 := Recs.new o1 n3
      replace x1 := x1.new n3
      replace o2 := OwnRecs.new o2 n3
      replace i2 := i2.new n3
      replace nn := nn.trans n3
      clear n3
      go_wp2_with fail
      refine (sameInts _ _ [] [] w3 i2 i3).mono ?_
      rintro e w4 ⟨rfl, n4⟩
      replace n4 := n4.new
      replace o1 := Recs.new o1 n4
      replace x1 := x1.new n4
      replace o2 := OwnRecs.new o2 n4
      replace i2 := i2.new n4
      replace o3 := Recs.new o3 n4
      replace i3 := i3.new n4
      replace nn := nn.trans n4
      clear n4
      go_wp2_with fail
      refine (sameStore _ _ [] [] w4 (OwnRecs.recs o2) o3).mono ?_
      rintro e w5 ⟨rfl, n5⟩
      replace o1 := Recs.new o1 n5
      replace x1 := x1.new n5
      replace o2 := OwnRecs.new o2 n5
      replace i2 := i2.new n5
      replace o3 := Recs.new o3 n5
      replace i3 := i3.new n5
      replace nn := nn.trans n5
      clear n5
      go_wp2_with fail
      refine (sameInts _ _ [] [] w5 i2 i3).mono ?_
      rintro e w6 ⟨rfl, n6⟩
      replace n6 := n6.new
      replace o1 := Recs.new o1 n6
      replace x1 := x1.new n6
      replace o2 := OwnRecs.new o2 n6
      replace i2 := i2.new n6
      replace o3 := Recs.new o3 n6
      replace i3 := i3.new n6
      replace nn := nn.trans n6
      clear n6
      go_wp2_with fail
      refine (sameStore _ _ [] [] w6 (OwnRecs.recs o2) o3).mono ?_
      rintro e w7 ⟨rfl, n7⟩
      replace o1 := Recs.new o1 n7
      replace x1 := x1.new n7
      replace o2 := OwnRecs.new o2 n7
      replace i2 := i2.new n7
      replace o3 := Recs.new o3 n7
      replace i3 := i3.new n7
      replace nn := nn.trans n7
      clear n7
      go_wp2_with fail
      go_ret
      exact ⟨rfl, nn⟩
    · have Hr := Lib.hid hr
      clear hr
      go_wp2_with fail
      refine (implFileStore (.slice a1 os.length c1) (.slice a2 xs.length c2) os xs w1 o1 x1 |>.mono fun e w2 h => fileSome Hr.out h).mono ?_
      rintro e w2 ⟨v2, t2, rfl, o2, i2, n2⟩
      replace o1 := Recs.new o1 n2
      replace x1 := x1.new n2
      replace nn := nn.trans n2
      clear n2
      obtain ⟨a3, c3, rfl, q1, q2, -⟩ := OwnRecs.shape o2
      unfold maxLen at q2
      obtain ⟨a4, c4, rfl, q3, ⟨q4, -⟩, -, -⟩ := id i2
      unfold maxLen at q4
      go_wp2_with fail
      refine (specFileStore (.slice a1 os.length c1) (.slice a2 xs.length c2) os xs w2 o1 x1 |>.mono fun e w2 h => fileReadSome Hr.out h).mono ?_
      rintro e w3 ⟨v3, t3, rfl, o3, i3, n3⟩
      replace o1 := Recs.new o1 n3
      replace x1 := x1.new n3
      replace o2 := OwnRecs.new o2 n3
      replace i2 := i2.new n3
      replace nn := nn.trans n3
      clear n3
      go_wp2_with fail
      refine (sameInts _ _ ks ks w3 i2 i3).mono ?_
      rintro e w4 ⟨he, n4⟩
      replace n4 := n4.new
      replace o1 := Recs.new o1 n4
      replace x1 := x1.new n4
      replace o2 := OwnRecs.new o2 n4
      replace i2 := i2.new n4
      replace o3 := Recs.new o3 n4
      replace nn := nn.trans n4
      clear n4
      rw [decide_eq_true rfl] at he
      subst he
      go_wp2_with fail
      refine (sameStore _ _ os2 os2 w4 (OwnRecs.recs o2) o3).mono ?_
      rintro e w5 ⟨he, n5⟩
      replace o1 := Recs.new o1 n5
      replace x1 := x1.new n5
      replace o2 := OwnRecs.new o2 n5
      replace i2 := i2.new n5
      replace nn := nn.trans n5
      clear n5
      rw [decide_eq_true rfl] at he
      subst he
      obtain ⟨l1, l2, l3⟩ := law_fileMany Hr.out
      have e1 : cutOf xs = cuts xs := by simp [cutOf, l1]
      have L3 := Lib.hid l3
      have hcut := fun (S : Nat → Prop) (v : Value) (W : World) (G : Ints S W v xs) => implCut v xs W G
      rw [e1, l1] at hcut
      have Hcut := Lib.hid hcut
      clear hcut e1 l1 l3
      have Hl2 := Lib.hid l2
      clear l2
      go_wp2_with fail
      refine (Hcut.out _ _ w5 x1).mono ?_
      rintro e w6 ⟨v5, rfl, b5, n6⟩
      replace o1 := Recs.new o1 n6
      replace x1 := x1.new n6
      replace o2 := OwnRecs.new o2 n6
      replace i2 := i2.new n6
      replace nn := nn.trans n6
      clear n6
      obtain ⟨a5, c5, rfl, q5, q6⟩ := b5.shape
      unfold maxLen at q6
      have hx1 := fun (W : World) (n : New w6 W) => i2.new n
      have hb4 := fun (W : World) (n : New w6 W) => b5.new n
      have Hx1 := Lib.hid hx1
      have Hb4 := Lib.hid hb4
      have hlen : ((cuts xs).length : Int) = (ks.length : Int) := by rw [Hl2.out]
      have hlb : (((cuts xs).length : Int) == (ks.length : Int)) = true := by simp [hlen]
      have Hlen := Lib.hid hlen
      clear hx1 hb4 o1 x1 b5 hlen o2 i2
      generalize cuts xs = bl at *
      go_wp2_with fail
      go_loopg [13] bl.length (fun gk i wr => ∃ k : Nat, gk = bl.length - k ∧ k ≤ bl.length ∧ i = .int .i64 k ∧ New w6 wr)
      case atStart => exact ⟨0, rfl, Nat.zero_le _, rfl, New.refl _⟩
      case round =>
        obtain ⟨k, hgk, hk, rfl, hn⟩ := hrel
        have Hgk := Lib.hid hgk
        clear hgk
        by_cases hlt : k < bl.length
        · have hltk : k < ks.length := by rw [← Hl2.out]; exact hlt
          obtain ⟨p, hp⟩ := get_of hltk
          obtain ⟨x, hx⟩ := get_of hlt
          have Hp := Lib.hid hp
          have Hx := Lib.hid hx
          clear hp hx
          go_wp2_with fail
          go_loopg [14] k (fun gk j wr => ∃ m : Nat, gk = k - m ∧ m ≤ k ∧ j = .int .i64 m ∧ New w6 wr)
          case atStart => exact ⟨0, rfl, Nat.zero_le _, rfl, hn⟩
          case round =>
            obtain ⟨m, hgk2, hm, rfl, hn2⟩ := hrel
            have Hgk2 := Lib.hid hgk2
            clear hgk2 hn
            by_cases hlt2 : m < k
            · have hltm : m < bl.length := by omega
              have hltm2 : m < ks.length := by omega
              obtain ⟨q, hq⟩ := get_of hltm2
              obtain ⟨y, hy⟩ := get_of hltm
              have hiff := L3.out k m x y p q Hx.out hy Hp.out hq
              obtain ⟨b', off, rfl, kp⟩ := Ints.cellAt (Hx1.out _ hn2) Hp.out
              obtain ⟨b'', off'', e2, kq⟩ := Ints.cellAt (Hx1.out _ hn2) hq
              cases e2
              obtain ⟨gb, cb, ub, ev, -, hgb, kb, ob⟩ := (Hb4.out _ hn2).at Hx.out
              simp only [Value.slice.injEq] at ev
              obtain ⟨rfl, -, rfl⟩ := ev
              obtain ⟨gb2, cb2, ub2, ev, -, hgb2, kb2, ob2⟩ := (Hb4.out _ hn2).at hy
              simp only [Value.slice.injEq, Option.some.injEq, Addr.mk.injEq] at ev
              obtain ⟨⟨rfl, -, -⟩, -, rfl⟩ := ev
              have hcall : ∀ n, Calls Try.prog 27 #[ub, ub2] (World.drewN _ n) fun e w'' => e = .returned (.bool (decide (x = y))) ∧ ∃ m, w'' = World.drewN _ m := fun n => quiet_of_drew (sameInts _ _ x y _ (ob.nums.new ((New.refl _).drewN n)) (ob2.nums.new ((New.refl _).drewN n)))
              have hde : (p == q) = decide (x = y) := by
                by_cases e : x = y
                · rw [decide_eq_true e]; simp [hiff.1 e]
                · rw [decide_eq_false e]; simp; exact fun e' => e (hiff.2 e')
              generalize decide (x = y) = d at *
              have hdd : (d != d) = false := by simp
              have Hcall := Lib.hid hcall
              clear hcall hq hy ob ob2 hiff
              go_wp2_with fail
              go_quiet ((go_at_call 27; exact Hcall.out _))
              go_wp2_with fail
              go_roundg (k - (m + 1))
              case measure => rw [Hgk2.out]; omega
              case rel => exact ⟨m + 1, rfl, by omega, by go_num, hn2.drewN _⟩
            · go_wp2_with fail
              go_roundg (bl.length - (k + 1))
              case measure => rw [Hgk.out]; omega
              case rel => exact ⟨k + 1, rfl, by omega, by go_num, hn2⟩
        · go_wp2_with fail
          go_ret
          exact ⟨rfl, nn.trans hn⟩
end Go.Proofs.Ytfhnhggmoplmiaa
