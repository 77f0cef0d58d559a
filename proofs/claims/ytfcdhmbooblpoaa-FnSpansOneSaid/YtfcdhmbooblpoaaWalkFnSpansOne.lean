/- The walk of FnSpansOne. -/
import Derived.Test.YtfcdhmbooblpoaaSpansMore
import Derived.Test.YtfcdhmbooblpoaaDrawSpans
namespace Go.Proofs.Ytfcdhmbooblpoaa
open Go.RowKit

set_option maxHeartbeats 2000000 in
theorem walkFnSpansOne (v : Value) (bs : List Int) (w : World) (h : Nums .u8 Any w v bs) :
    Calls Try.prog 13 #[v] w fun e w' => e = .returned (.bool true) ∧ New w w' := by
  have h0 := h
  obtain ⟨a, c, rfl, h1, ⟨h2, -⟩, h3, h4⟩ := h
  unfold maxLen at h2
  clear h4 h3
  by_cases hl : 1048576 < bs.length
  · have hl' : (1048576 : Int) < bs.length := by omega
    go_enter Try.func13, Try.ntmps13
    go_wp2_with fail
    go_ret
    exact ⟨rfl, New.refl _⟩
  · have hl' : ¬ ((1048576 : Int) < bs.length) := by omega
    go_enter Try.func13, Try.ntmps13
    go_wp2_with fail
    refine (drawKeepSpans _ bs w h0).mono ?_
    rintro e w1 ⟨v1, xs, s, many, rfl, hs, hs0, hs1, hm0, hm1, o1, n1⟩
    obtain ⟨m, rfl⟩ := Int.eq_ofNat_of_zero_le hm0
    have hx1 := hs.1
    have hrl := spans_len xs s m
    go_wp2_with fail
    refine (keepSpans _ xs s m _ o1.nums).mono ?_
    rintro e w2 ⟨v2, rfl, o2, n2⟩
    replace o1 := o1.new n2
    replace n1 := n1.trans n2
    go_wp2_with fail
    refine (specKeepSpans _ xs s m _ o1.nums).mono ?_
    rw [spans_eq]
    rintro e w3 ⟨v3, rfl, o3, n3⟩
    replace o1 := o1.new n3
    replace o2 := o2.new n3
    replace n1 := n1.trans n3
    go_wp2_with fail
    refine (sameInts _ _ _ _ _ o2.nums o3.nums).mono ?_
    rintro e w4 ⟨rfl, d4⟩
    replace o1 := o1.new d4.new
    replace o2 := o2.new d4.new
    replace o3 := o3.new d4.new
    replace n1 := n1.trans d4.new
    clear n2 n3 d4
    go_wp2_with fail
    refine (specTv_ok _ xs _ o1.nums).mono ?_
    rintro e w5 ⟨rfl, d5⟩
    replace o1 := o1.new d5.new
    replace o2 := o2.new d5.new
    replace o3 := o3.new d5.new
    replace n1 := n1.trans d5.new
    clear d5
    rcases hr : timesOk xs with _ | _
    · have Hr := Lib.hid hr
      clear hr
      go_wp2_with fail
      refine (sameInts _ _ _ _ _ o2.nums o3.nums).mono ?_
      rintro e w6 ⟨rfl, d6⟩
      go_wp2_with fail
      go_ret
      exact ⟨by simp, n1.trans d6.new⟩
    · have Hr := Lib.hid hr
      clear hr
      by_cases hsp : s < 1
      · go_wp2_with fail
        refine (sameInts _ _ _ _ _ o2.nums o3.nums).mono ?_
        rintro e w6 ⟨rfl, d6⟩
        go_wp2_with fail
        go_ret
        exact ⟨by simp, n1.trans d6.new⟩
      · have hso : spanOk s = true := by simp [spanOk]; omega
        have hmo : manyOk (m : Int) = true := by simp [manyOk]; omega
        have hs1' : ¬ (9999 < s) := by omega
        have hm0' : ¬ ((m : Int) < 0) := by omega
        have hm1' : ¬ ((20 : Int) < (m : Int)) := by omega
        have Hso := Lib.hid hso
        have Hmo := Lib.hid hmo
        clear hso hmo
        have h2 := fun (S : Nat → Prop) (W : World) (H : Ints S W v2 (spans xs s m)) => keepSpans v2 (spans xs s m) s m W H
        rw [spans_again Hr.out Hso.out Hmo.out] at h2
        have h3 := fun (W : World) (H : Ints (fun k => w.heap.size ≤ k) W v1 xs) => keepSpans v1 xs 1 m W H
        rw [spans_one Hr.out Hmo.out] at h3
        have H2 := Lib.hid h2
        have H3 := Lib.hid h3
        clear h2 h3
        generalize spans xs s (m : Int) = r at hrl H2 o2 o3 ⊢
        go_wp2_with fail
        refine (H3.out _ o1.nums).mono ?_
        rintro e w6 ⟨v6, rfl, o6, n6⟩
        replace o1 := o1.new n6
        replace o2 := o2.new n6
        replace n1 := n1.trans n6
        go_wp2_with fail
        refine (keepNewest _ xs m _ o1.nums).mono ?_
        rintro e w7 ⟨v7, rfl, o7, n7⟩
        replace o2 := o2.new n7
        replace o6 := o6.new n7
        replace n1 := n1.trans n7
        generalize newest xs (m : Int) = q at o6 o7 ⊢
        go_wp2_with fail
        refine (sameInts _ _ q q _ o6.nums o7.nums).mono ?_
        rintro e w8 ⟨rfl, d8⟩
        replace o2 := o2.new d8.new
        replace n1 := n1.trans d8.new
        go_wp2_with fail
        refine (H2.out _ _ o2.nums).mono ?_
        rintro e w9 ⟨v9, rfl, o9, n9⟩
        replace o2 := o2.new n9
        replace n1 := n1.trans n9
        go_wp2_with fail
        refine (sameInts _ _ r r _ o9.nums o2.nums).mono ?_
        rintro e w10 ⟨rfl, d10⟩
        go_wp2_with fail
        go_ret
        exact ⟨by simp, n1.trans d10.new⟩

end Go.Proofs.Ytfcdhmbooblpoaa
