/- The walk of FnSpansLast. -/
import Derived.Test.YtfcdhmbooblpoaaSpansMore
import Derived.Test.YtfcdhmbooblpoaaDrawSpans
namespace Go.Proofs.Ytfcdhmbooblpoaa
open Go.RowKit

set_option maxHeartbeats 2000000 in
theorem walkFnSpansLast (v : Value) (bs : List Int) (w : World) (h : Nums .u8 Any w v bs) :
    Calls Try.prog 11 #[v] w fun e w' => e = .returned (.bool true) ∧ New w w' := by
  have h0 := h
  obtain ⟨a, c, rfl, h1, ⟨h2, -⟩, h3, h4⟩ := h
  unfold maxLen at h2
  clear h4 h3
  by_cases hl : 1048576 < bs.length
  · have hl' : (1048576 : Int) < bs.length := by omega
    go_enter Try.func11, Try.ntmps11
    go_wp2_with fail
    go_ret
    exact ⟨rfl, New.refl _⟩
  · have hl' : ¬ ((1048576 : Int) < bs.length) := by omega
    go_enter Try.func11, Try.ntmps11
    go_wp2_with fail
    refine (drawKeepSpans _ bs w h0).mono ?_
    rintro e w1 ⟨v1, xs, s, many, rfl, hs, hs0, hs1, hm0, hm1, o1, n1⟩
    obtain ⟨m, rfl⟩ := Int.eq_ofNat_of_zero_le hm0
    have hx1 := hs.1
    have hrl := spans_len xs s m
    go_wp2_with fail
    refine (keepSpans _ xs s m _ o1.nums).mono ?_
    rintro e w2 ⟨v2, rfl, o2, n2⟩
    replace o1 := o1.new n2
    replace n1 := n1.trans n2
    go_wp2_with fail
    refine (specKeepSpans _ xs s m _ o1.nums).mono ?_
    rw [spans_eq]
    rintro e w3 ⟨v3, rfl, o3, n3⟩
    replace o1 := o1.new n3
    replace o2 := o2.new n3
    replace n1 := n1.trans n3
    go_wp2_with fail
    refine (sameInts _ _ _ _ _ o2.nums o3.nums).mono ?_
    rintro e w4 ⟨rfl, d4⟩
    replace o1 := o1.new d4.new
    replace o2 := o2.new d4.new
    replace o3 := o3.new d4.new
    replace n1 := n1.trans d4.new
    clear n2 n3 d4
    go_wp2_with fail
    refine (specTv_ok _ xs _ o1.nums).mono ?_
    rintro e w5 ⟨rfl, d5⟩
    replace o1 := o1.new d5.new
    replace o2 := o2.new d5.new
    replace o3 := o3.new d5.new
    replace n1 := n1.trans d5.new
    clear d5
    rcases hr : timesOk xs with _ | _
    · have Hr := Lib.hid hr
      clear hr
      go_wp2_with fail
      refine (sameInts _ _ _ _ _ o2.nums o3.nums).mono ?_
      rintro e w6 ⟨rfl, d6⟩
      go_wp2_with fail
      go_ret
      exact ⟨by simp, n1.trans d6.new⟩
    · have Hr := Lib.hid hr
      clear hr
      by_cases hsp : s < 1
      · go_wp2_with fail
        refine (sameInts _ _ _ _ _ o2.nums o3.nums).mono ?_
        rintro e w6 ⟨rfl, d6⟩
        go_wp2_with fail
        go_ret
        exact ⟨by simp, n1.trans d6.new⟩
      · have hso : spanOk s = true := by simp [spanOk]; omega
        have hmo : manyOk (m : Int) = true := by simp [manyOk]; omega
        have hs1' : ¬ (9999 < s) := by omega
        have hm0' : ¬ ((m : Int) < 0) := by omega
        have hm1' : ¬ ((20 : Int) < (m : Int)) := by omega
        have Hso := Lib.hid hso
        have Hmo := Lib.hid hmo
        clear hso hmo
        have hlast := fun a b => spans_last Hr.out Hso.out Hmo.out a b
        generalize spans xs s (m : Int) = r at hrl hlast o2 o3 ⊢
        obtain ⟨a3, c3, rfl, -⟩ := o3.shape
        have Hlast := Lib.hid hlast
        clear hlast
        by_cases hmz : m = 0
        · have hb : ((m : Int) == 0) = true := by simp [hmz]
          clear hmz
          go_wp2_with fail
          refine (sameInts _ _ _ _ _ o2.nums o3.nums).mono ?_
          rintro e w6 ⟨rfl, d6⟩
          go_wp2_with fail
          go_ret
          exact ⟨by simp, n1.trans d6.new⟩
        · have hb : ((m : Int) == 0) = false := by simp [hmz]
          by_cases hxz : xs.length = 0
          · have hb2 : ((xs.length : Int) == 0) = true := by simp [hxz]
            obtain ⟨a1, c1, rfl, -⟩ := o1.shape
            clear hxz hmz
            go_wp2_with fail
            refine (sameInts _ _ _ _ _ o2.nums o3.nums).mono ?_
            rintro e w6 ⟨rfl, d6⟩
            go_wp2_with fail
            go_ret
            exact ⟨by simp, n1.trans d6.new⟩
          · have hb2 : ((xs.length : Int) == 0) = false := by simp [hxz]
            obtain ⟨hr1, x, hrx, hxx⟩ := Hlast.out hmz hxz
            obtain ⟨g1, c1, rfl, -, -, hc1, -⟩ := o1.1.head (by omega)
            obtain ⟨g2, c2, rfl, -, -, hc2, -⟩ := o2.1.head (by omega)
            have cx := o1.1.cellAt (i := xs.length - 1) (u := .int .i64 x) (by rw [List.getElem?_map, hxx]; rfl)
            have cr := o2.1.cellAt (i := r.length - 1) (u := .int .i64 x) (by rw [List.getElem?_map, hrx]; rfl)
            have hge : decide ((1 : Int) ≤ (r.length : Int)) = true := by simp; omega
            have hi1 : (xs.length : Int) - 1 = ((xs.length - 1 : Nat) : Int) := by omega
            have hi2 : (r.length : Int) - 1 = ((r.length - 1 : Nat) : Int) := by omega
            have hj1 : IntKind.i64.wrap ((xs.length : Int) - 1) = ((xs.length - 1 : Nat) : Int) := by rw [IntWalk.i64_in _ (by omega)]; omega
            have hj2 : IntKind.i64.wrap ((r.length : Int) - 1) = ((r.length - 1 : Nat) : Int) := by rw [IntWalk.i64_in _ (by omega)]; omega
            have hk1 : xs.length - 1 < xs.length := by omega
            have hk2 : r.length - 1 < r.length := by omega
            generalize xs.length - 1 = i1 at *
            generalize r.length - 1 = i2 at *
            clear hxz hmz hrx hxx
            go_wp2_with fail
            go_quiet (fail)
            go_wp2_with fail
            go_ret
            exact ⟨by simp, n1.drewN _⟩

end Go.Proofs.Ytfcdhmbooblpoaa
