/- The walk of FnBothSame. -/
import Derived.Test.YtfcdhmbooblpoaaBothLaw
import Derived.Test.YtfcdhmbooblpoaaTimesDraw
namespace Go.Proofs.Ytfcdhmbooblpoaa
open Go.RowKit

theorem both_comm (xs ys : List Int) : both ys xs = both xs ys := by
  have e : bothAll ys xs = bothAll xs ys := by
    unfold bothAll
    rw [desc_unique (desc_desc (ys ++ xs)) (desc_desc (xs ++ ys)) ((desc_perm _).trans (List.perm_append_comm.trans (desc_perm _).symm))]
  unfold both
  rw [e, Bool.and_comm]
theorem both_self {xs : List Int} (h : timesOk xs = true) : both xs xs = xs := by
  have e : bothAll xs xs = xs := by
    obtain ⟨h1, h2⟩ := gg_desc _ (desc_desc (xs ++ xs))
    unfold bothAll
    rw [bothRun_gg]
    refine SS.ext h1 (ok_sorted h) fun z => ?_
    rw [h2 z, (desc_perm _).mem_iff, List.mem_append]
    exact ⟨fun h => h.elim id id, .inl⟩
  unfold both
  rw [e, h]; rfl

set_option maxHeartbeats 1000000 in
theorem walkFnBothSame (v : Value) (bs : List Int) (w : World) (h : Nums .u8 Any w v bs) :
    Calls Try.prog 15 #[v] w fun e w' => e = .returned (.bool true) ∧ New w w' := by
  have h0 := h
  obtain ⟨a, c, rfl, h1, ⟨h2, -⟩, h3, h4⟩ := h
  unfold maxLen at h2
  clear h4 h3
  by_cases hl : 1048576 < bs.length
  · have hl' : (1048576 : Int) < bs.length := by omega
    go_enter Try.func15, Try.ntmps15
    go_wp2_with fail
    go_ret
    exact ⟨rfl, New.refl _⟩
  · have hl' : ¬ ((1048576 : Int) < bs.length) := by omega
    go_enter Try.func15, Try.ntmps15
    go_wp2_with fail
    refine (drawKeepBoth _ bs w h0).mono ?_
    rintro e w1 ⟨v1, u1, xs, ys, rfl, hs, hs', o1, p1, n1⟩
    have hs1 := hs.1
    have hs2 := hs'.1
    go_wp2_with fail
    refine (keepBoth _ _ xs ys _ o1.nums p1.nums).mono ?_
    rintro e w2 ⟨v2, rfl, o2, n2⟩
    replace o1 := o1.new n2
    replace p1 := p1.new n2
    replace n1 := n1.trans n2
    go_wp2_with fail
    refine (specKeepBoth _ _ xs ys _ o1.nums p1.nums).mono ?_
    rw [both_eq]
    rintro e w3 ⟨v3, rfl, o3, n3⟩
    replace o1 := o1.new n3
    replace p1 := p1.new n3
    replace o2 := o2.new n3
    replace n1 := n1.trans n3
    go_wp2_with fail
    refine (sameInts _ _ _ _ _ o2.nums o3.nums).mono ?_
    rintro e w4 ⟨rfl, d4⟩
    replace o1 := o1.new d4.new
    replace p1 := p1.new d4.new
    replace o2 := o2.new d4.new
    replace n1 := n1.trans d4.new
    clear n2 n3 d4 o3
    go_wp2_with fail
    refine (keepBoth _ _ ys xs _ p1.nums o1.nums).mono ?_
    rw [both_comm xs ys]
    rintro e w5 ⟨v5, rfl, o5, n5⟩
    replace o1 := o1.new n5
    replace o2 := o2.new n5
    replace n1 := n1.trans n5
    go_wp2_with fail
    refine (sameInts _ _ _ _ _ o5.nums o2.nums).mono ?_
    rintro e w6 ⟨rfl, d6⟩
    replace o1 := o1.new d6.new
    replace n1 := n1.trans d6.new
    clear n5 d6
    go_wp2_with fail
    refine (implTv _ xs _ o1.nums).mono ?_
    rcases hr : timesOk xs with _ | _
    · clear hr
      rintro e w7 ⟨rfl, rfl⟩
      go_wp2_with fail
      go_ret
      exact ⟨by simp, n1⟩
    · have Hr := Lib.hid hr
      clear hr
      rintro e w7 ⟨rfl, rfl⟩
      go_wp2_with fail
      refine (keepBoth _ _ xs xs _ o1.nums o1.nums).mono ?_
      rw [both_self Hr.out]
      rintro e w8 ⟨v8, rfl, o8, n8⟩
      replace o1 := o1.new n8
      go_wp2_with fail
      refine (sameInts _ _ _ _ _ o8.nums o1.nums).mono ?_
      rintro e w9 ⟨rfl, d9⟩
      go_wp2_with fail
      go_ret
      exact ⟨by simp, (n1.trans n8).trans d9.new⟩

end Go.Proofs.Ytfcdhmbooblpoaa
