/- The walk of FnFileLoad. -/
import Derived.Test.YtfhnhggmoplmiaaFileCalls
namespace Go.Proofs.Ytfhnhggmoplmiaa
open Go.RowKit

set_option maxRecDepth 4000 in
set_option maxHeartbeats 4000000 in
theorem walkFnFileLoad (v : Value) (bs : List Int) (w : World) (h : Nums .u8 Any w v bs) :
    Calls Try.prog 5 #[v] w fun e w' => e = .returned (.bool true) ∧ New w w' := by
  have h0 := h
  obtain ⟨a, c, rfl, h1, ⟨h2, -⟩, -, -⟩ := h
  unfold maxLen at h2
  by_cases hl : 1048576 < bs.length
  · have hl' : (1048576 : Int) < bs.length := by omega
    go_enter Try.func5, Try.ntmps5
    go_wp2_with fail
    go_ret
    exact ⟨rfl, New.refl _⟩
  · have hl' : ¬ ((1048576 : Int) < bs.length) := by omega
    go_enter Try.func5, Try.ntmps5
    go_wp2_with fail
    refine (drawFileLoad _ bs w h0).mono ?_
    rintro e w1 ⟨v1, os, u1, xs, rfl, hos, o1, x1, nn⟩
    obtain ⟨-, a1, c1, rfl, y1, y2, -⟩ := id o1
    obtain ⟨a2, c2, rfl, y3, ⟨y4, -⟩, -, -⟩ := id x1
    unfold maxLen at y2 y4
    rcases hr : fileLoadH xs os with _ | r2
    · have Hr := Lib.hid hr
      clear hr
      go_wp2_with fail
      refine (implFileLoad (.slice a1 os.length c1) (.slice a2 xs.length c2) os xs w1 o1 x1 |>.mono fun e w2 h => getNone Hr.out h).mono ?_
      rintro e w2 ⟨v2, rfl, o2, n2⟩
      replace o1 := Recs.new o1 n2
      replace x1 := x1.new n2
      replace nn := nn.trans n2
      clear n2
      go_wp2_with fail
      refine (specFileLoad (.slice a1 os.length c1) (.slice a2 xs.length c2) os xs w2 o1 x1 |>.mono fun e w2 h => getNone Hr.out h).mono ?_
      rintro e w3 ⟨v3, rfl, o3, n3⟩
      replace o1 := Recs.new o1 n3
      replace x1 := x1.new n3
      replace o2 := o2.new n3
      replace nn := nn.trans n3
      clear n3
      go_wp2_with fail
      refine (sameInts _ _ [] [] w3 o2 o3).mono ?_
      rintro e w4 ⟨rfl, n4⟩
      replace n4 := n4.new
      replace o1 := Recs.new o1 n4
      replace x1 := x1.new n4
      replace o2 := o2.new n4
      replace o3 := o3.new n4
      replace nn := nn.trans n4
      clear n4
      go_wp2_with fail
      refine (sameInts _ _ [] [] w4 o2 o3).mono ?_
      rintro e w5 ⟨rfl, n5⟩
      replace n5 := n5.new
      replace o1 := Recs.new o1 n5
      replace x1 := x1.new n5
      replace o2 := o2.new n5
      replace o3 := o3.new n5
      replace nn := nn.trans n5
      clear n5
      go_wp2_with fail
      go_ret
      exact ⟨rfl, nn⟩
    · have Hr := Lib.hid hr
      clear hr
      go_wp2_with fail
      refine (implFileLoad (.slice a1 os.length c1) (.slice a2 xs.length c2) os xs w1 o1 x1 |>.mono fun e w2 h => getSome Hr.out h).mono ?_
      rintro e w2 ⟨v2, rfl, o2, n2⟩
      replace o1 := Recs.new o1 n2
      replace x1 := x1.new n2
      replace nn := nn.trans n2
      clear n2
      go_wp2_with fail
      refine (specFileLoad (.slice a1 os.length c1) (.slice a2 xs.length c2) os xs w2 o1 x1 |>.mono fun e w2 h => getSome Hr.out h).mono ?_
      rintro e w3 ⟨v3, rfl, o3, n3⟩
      replace o1 := Recs.new o1 n3
      replace x1 := x1.new n3
      replace o2 := o2.new n3
      replace nn := nn.trans n3
      clear n3
      go_wp2_with fail
      refine (sameInts _ _ r2 r2 w3 o2 o3).mono ?_
      rintro e w4 ⟨he, n4⟩
      replace n4 := n4.new
      replace o1 := Recs.new o1 n4
      replace x1 := x1.new n4
      replace o2 := o2.new n4
      replace nn := nn.trans n4
      clear n4
      rw [decide_eq_true rfl] at he
      subst he
      obtain ⟨l1, l2, l3⟩ := law_fileLoad Hr.out
      have e1 : cutOf r2 = cuts r2 := by simp [cutOf, l1]
      have L3 := Lib.hid l3
      have hcut := fun (S : Nat → Prop) (v : Value) (W : World) (G : Ints S W v r2) => implCut v r2 W G
      rw [e1, l1] at hcut
      have Hcut := Lib.hid hcut
      clear hcut e1 l1 l3
      have Hl2 := Lib.hid l2
      clear l2
      go_wp2_with fail
      refine (Hcut.out _ _ w4 o2).mono ?_
      rintro e w5 ⟨v4, rfl, b4, n5⟩
      replace o1 := Recs.new o1 n5
      replace x1 := x1.new n5
      replace o2 := o2.new n5
      replace nn := nn.trans n5
      clear n5
      obtain ⟨a4, c4, rfl, q1, q2⟩ := b4.shape
      unfold maxLen at q2
      have hfit := x1.fits
      have Hfit := Lib.hid hfit
      have ho1 := fun (W : World) (n : New w5 W) => Recs.new o1 n
      have hx1 := fun (W : World) (n : New w5 W) => x1.new n
      have hb4 := fun (W : World) (n : New w5 W) => b4.new n
      have Ho1 := Lib.hid ho1
      have Hx1 := Lib.hid hx1
      have Hb4 := Lib.hid hb4
      have hlen : ((cuts r2).length : Int) = (xs.length : Int) := by rw [Hl2.out]
      have hlb : (((cuts r2).length : Int) == (xs.length : Int)) = true := by simp [hlen]
      have Hlen := Lib.hid hlen
      clear hfit ho1 hx1 hb4 o1 x1 b4 hlen o2
      generalize cuts r2 = bl at *
      go_wp2_with fail
      go_loopg [11] xs.length (fun gk i wr => ∃ k : Nat, gk = xs.length - k ∧ k ≤ xs.length ∧ i = .int .i64 k ∧ New w5 wr)
      case atStart => exact ⟨0, rfl, Nat.zero_le _, rfl, New.refl _⟩
      case round =>
        obtain ⟨k, hgk, hk, rfl, hn⟩ := hrel
        have Hgk := Lib.hid hgk
        clear hgk
        by_cases hlt : k < xs.length
        · obtain ⟨x, hx⟩ := get_of hlt
          obtain ⟨bb, hb, hg⟩ := L3.out k x hx
          have hx64 := Hfit.out x (List.mem_of_getElem? hx)
          obtain ⟨b', off, rfl, kx⟩ := Ints.cellAt (Hx1.out _ hn) hx
          have hkb : k < bl.length := (List.getElem?_eq_some_iff.1 hb).1
          have hget := fun (W : World) (n : New w5 W) => implStoreGet _ os x W (Ho1.out W n) hx64
          rw [hg] at hget
          have Hget := Lib.hid hget
          have hba := fun (W : World) (n : New w5 W) => (Hb4.out W n).at hb
          have Hba := Lib.hid hba
          clear hx hb hg hget hba
          go_wp2_with fail
          refine (Hget.out _ hn).mono ?_
          rintro e w8 ⟨v8, rfl, x8, n8⟩
          have hn8 := hn.trans n8
          obtain ⟨gb, cb, ub, ev, -, hgb, kb, ob⟩ := Hba.out _ hn8
          simp only [Value.slice.injEq] at ev
          obtain ⟨rfl, -, rfl⟩ := ev
          obtain ⟨a8, c8, rfl, -, -, -, -⟩ := id x8
          simp only [Option.getD_some, Option.isSome_some] at x8 ⊢
          go_wp2_with fail
          refine (sameInts _ _ bb bb _ x8 ob.nums).mono ?_
          rw [decide_eq_true rfl]
          rintro e w9 ⟨rfl, d9⟩
          have hn9 := hn8.trans d9.new
          clear d9 x8 ob kb n8 hn8
          go_wp2_with fail
          go_roundg (xs.length - (k + 1))
          case measure => rw [Hgk.out]; omega
          case rel => exact ⟨k + 1, rfl, by omega, by go_num, hn9⟩
        · go_wp2_with fail
          go_ret
          exact ⟨rfl, nn.trans hn⟩
end Go.Proofs.Ytfhnhggmoplmiaa
