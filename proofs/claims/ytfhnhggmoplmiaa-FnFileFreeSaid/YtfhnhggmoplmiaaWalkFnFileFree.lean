/- The walk of FnFileFree. -/
import Derived.Test.YtfhnhggmoplmiaaFileCount
namespace Go.Proofs.Ytfhnhggmoplmiaa
open Go.RowKit

set_option maxRecDepth 4000 in
set_option maxHeartbeats 4000000 in
theorem walkFnFileFree (v : Value) (bs : List Int) (w : World) (h : Nums .u8 Any w v bs) :
    Calls Try.prog 7 #[v] w fun e w' => e = .returned (.bool true) ∧ New w w' := by
  have h0 := h
  obtain ⟨a, c, rfl, h1, ⟨h2, -⟩, -, -⟩ := h
  unfold maxLen at h2
  by_cases hl : 1048576 < bs.length
  · have hl' : (1048576 : Int) < bs.length := by omega
    go_enter Try.func7, Try.ntmps7
    go_wp2_with fail
    go_ret
    exact ⟨rfl, New.refl _⟩
  · have hl' : ¬ ((1048576 : Int) < bs.length) := by omega
    go_enter Try.func7, Try.ntmps7
    go_wp2_with fail
    refine (drawFileFree _ bs w h0).mono ?_
    rintro e w1 ⟨v1, os, u1, xs, rfl, hos, o1, x1, nn⟩
    obtain ⟨-, a1, c1, rfl, y1, y2, -⟩ := id o1
    obtain ⟨a2, c2, rfl, y3, ⟨y4, -⟩, -, -⟩ := id x1
    unfold maxLen at y2 y4
    rcases hr : fileFreeH xs os with _ | r2
    · have Hr := Lib.hid hr
      clear hr
      go_wp2_with fail
      refine (implFileFree (.slice a1 os.length c1) (.slice a2 xs.length c2) os xs w1 o1 x1 |>.mono fun e w2 h => keepNone Hr.out h).mono ?_
      rintro e w2 ⟨v2, rfl, o2, n2⟩
      replace o1 := Recs.new o1 n2
      replace x1 := x1.new n2
      replace nn := nn.trans n2
      clear n2
      go_wp2_with fail
      refine (specFileFree (.slice a1 os.length c1) (.slice a2 xs.length c2) os xs w2 o1 x1 |>.mono fun e w2 h => keepNone Hr.out h).mono ?_
      rintro e w3 ⟨v3, rfl, o3, n3⟩
      replace o1 := Recs.new o1 n3
      replace x1 := x1.new n3
      replace o2 := OwnRecs.new o2 n3
      replace nn := nn.trans n3
      clear n3
      go_wp2_with fail
      refine (sameStore _ _ [] [] w3 (OwnRecs.recs o2) (OwnRecs.recs o3)).mono ?_
      rintro e w4 ⟨rfl, n4⟩
      replace o1 := Recs.new o1 n4
      replace x1 := x1.new n4
      replace o2 := OwnRecs.new o2 n4
      replace o3 := OwnRecs.new o3 n4
      replace nn := nn.trans n4
      clear n4
      go_wp2_with fail
      refine (sameStore _ _ [] [] w4 (OwnRecs.recs o2) (OwnRecs.recs o3)).mono ?_
      rintro e w5 ⟨rfl, n5⟩
      replace o1 := Recs.new o1 n5
      replace x1 := x1.new n5
      replace o2 := OwnRecs.new o2 n5
      replace o3 := OwnRecs.new o3 n5
      replace nn := nn.trans n5
      clear n5
      go_wp2_with fail
      go_ret
      exact ⟨rfl, nn⟩
    · have Hr := Lib.hid hr
      clear hr
      go_wp2_with fail
      refine (implFileFree (.slice a1 os.length c1) (.slice a2 xs.length c2) os xs w1 o1 x1 |>.mono fun e w2 h => keepSome Hr.out h).mono ?_
      rintro e w2 ⟨v2, rfl, o2, n2⟩
      replace o1 := Recs.new o1 n2
      replace x1 := x1.new n2
      replace nn := nn.trans n2
      clear n2
      go_wp2_with fail
      refine (specFileFree (.slice a1 os.length c1) (.slice a2 xs.length c2) os xs w2 o1 x1 |>.mono fun e w2 h => keepSome Hr.out h).mono ?_
      rintro e w3 ⟨v3, rfl, o3, n3⟩
      replace o1 := Recs.new o1 n3
      replace x1 := x1.new n3
      replace o2 := OwnRecs.new o2 n3
      replace nn := nn.trans n3
      clear n3
      go_wp2_with fail
      refine (sameStore _ _ r2 r2 w3 (OwnRecs.recs o2) (OwnRecs.recs o3)).mono ?_
      rintro e w4 ⟨he, n4⟩
      replace o1 := Recs.new o1 n4
      replace x1 := x1.new n4
      replace o2 := OwnRecs.new o2 n4
      replace nn := nn.trans n4
      clear n4
      rw [decide_eq_true rfl] at he
      subst he
      obtain ⟨l1, l2, l3⟩ := law_fileFree Hr.out
      have L1 := Lib.hid l1
      have L3 := Lib.hid l3
      have hub := fun k => usesH_bound l1 k
      have Hub := Lib.hid hub
      clear l1 l3 hub
      have hl2 := Int.ofNat_le.2 l2
      obtain ⟨a3, c3, rfl, q1, q2, -⟩ := OwnRecs.shape o2
      unfold maxLen at q2
      have hfit := x1.fits
      have Hfit := Lib.hid hfit
      have ho1 := fun (W : World) (n : New w4 W) (k : Nat) (o : HeldR) (ho : os[k]? = some o) => Helds.at (Recs.new o1 n) ho
      have hx1 := fun (W : World) (n : New w4 W) => x1.new n
      have ho2 := fun (W : World) (n : New w4 W) => OwnRecs.recs (OwnRecs.new o2 n)
      have Ho1 := Lib.hid ho1
      have Hx1 := Lib.hid hx1
      have Ho2 := Lib.hid ho2
      clear hfit ho1 hx1 ho2 o1 x1 o2 l2
      go_wp2_with fail
      go_loopg [9] os.length (fun gk i wr => ∃ k : Nat, gk = os.length - k ∧ k ≤ os.length ∧ i = .int .i64 k ∧ New w4 wr)
      case atStart => exact ⟨0, rfl, Nat.zero_le _, rfl, New.refl _⟩
      case round =>
        obtain ⟨k, hgk, hk, rfl, hn⟩ := hrel
        have Hgk := Lib.hid hgk
        clear hgk
        by_cases hlt : k < os.length
        · obtain ⟨o, ho⟩ := get_of hlt
          have hue := L3.out o (List.mem_of_getElem? ho)
          have hub2 := Hub.out o.id
          have hc0 := countI_pos o.id xs
          have hcl := countI_le o.id xs
          have hua := fun (W : World) (n : New w4 W) => Ho1.out W n k o ho
          have Hua := Lib.hid hua
          have Hue := Lib.hid hue
          clear ho hua hue
          go_wp2_with fail
          go_loopg [10, 11] xs.length (fun gk nn2 j wr => ∃ m : Nat, gk = xs.length - m ∧ m ≤ xs.length ∧ j = .int .i64 m ∧ nn2 = .int .i64 (countI o.id (xs.take m)) ∧ New w4 wr)
          case atStart => exact ⟨0, rfl, Nat.zero_le _, rfl, rfl, hn⟩
          case round =>
            obtain ⟨m, hgk2, hm, rfl, rfl, hn2⟩ := hrel
            have Hgk2 := Lib.hid hgk2
            clear hgk2 hn
            obtain ⟨b, off, cb, t, e1, hb, c0, c1, c2, i0, i2, -⟩ := Hua.out _ hn2
            simp only [Value.slice.injEq] at e1
            obtain ⟨rfl, -, rfl⟩ := e1
            by_cases hlt2 : m < xs.length
            · obtain ⟨x, hx⟩ := get_of hlt2
              obtain ⟨b', off', rfl, kx⟩ := Ints.cellAt (Hx1.out _ hn2) hx
              have hct := countI_take (k := o.id) hx
              have hcb := countI_pos o.id (xs.take m)
              have hcl2 := countI_le o.id (xs.take m)
              have hml : (xs.take m).length = m := by simp; omega
              rw [hml] at hcl2
              have Hct := Lib.hid hct
              clear hx hct hml
              by_cases hxe : x = o.id
              · have hb2 : (x == o.id) = true := by simp [hxe]
                have Hxe := Lib.hid hxe
                clear hxe
                go_wp2_with fail
                go_quiet (fail)
                go_wp2_with fail
                go_roundg (xs.length - (m + 1))
                case measure => rw [Hgk2.out]; omega
                case rel => exact ⟨m + 1, rfl, by omega, by go_num, by rw [Hct.out, if_pos Hxe.out.symm], hn2.drewN _⟩
              · have hb2 : (x == o.id) = false := by simp [hxe]
                have Hxe := Lib.hid hxe
                clear hxe
                go_wp2_with fail
                go_quiet (fail)
                go_wp2_with fail
                go_roundg (xs.length - (m + 1))
                case measure => rw [Hgk2.out]; omega
                case rel => exact ⟨m + 1, rfl, by omega, by go_num, by rw [Hct.out, if_neg (fun e => Hxe.out e.symm), Int.add_zero], hn2.drewN _⟩
            · have ek : xs.take m = xs := List.take_of_length_le (by omega)
              rw [ek]
              have hcall : ∀ n, Calls Try.prog 34 #[.slice a3 r2.length c3, .int .i64 o.id] (World.drewN _ n) fun e w'' => e = .returned (.int .i64 (usesH o.id r2)) ∧ ∃ m, w'' = World.drewN _ m := fun n => quiet_of_eq (usesOf _ r2 o.id _ (Ho2.out _ (hn2.drewN n)))
              have Hcall := Lib.hid hcall
              have hue := Hue.out
              clear hcall ek
              generalize usesH o.id r2 = U at *
              generalize countI o.id xs = cn at *
              subst hue
              have hne : ((o.uses - cn) != (o.uses - cn)) = false := by simp
              go_wp2_with fail
              go_quiet ((go_at_call 34; exact Hcall.out _))
              go_wp2_with fail
              go_roundg (os.length - (k + 1))
              case measure => rw [Hgk.out]; omega
              case rel => exact ⟨k + 1, rfl, by omega, by go_num, hn2.drewN _⟩
        · go_wp2_with fail
          refine (implStoreValid _ r2 _ (Ho2.out _ hn)).mono ?_
          rw [L1.out]
          rintro e w9 ⟨rfl, n9⟩
          go_wp2_with fail
          go_ret
          exact ⟨rfl, (nn.trans hn).trans n9⟩
end Go.Proofs.Ytfhnhggmoplmiaa
