/- The walk of FnExactTimesValid. -/
import Derived.Test.YtfcdhmbooblpoaaTv
namespace Go.Proofs.Ytfcdhmbooblpoaa
open Go.RowKit

set_option maxHeartbeats 400000 in
theorem walkFnExactTimesValid (v : Value) (xs : List Int) (w : World) (h : Ints Any w v xs) :
    Calls Try.prog 3 #[v] w fun e w' => e = .returned (.bool true) ∧ New w w' := by
  have h0 := h
  obtain ⟨a, c, rfl, h1, h2, h3, h4⟩ := h
  unfold maxLen at h2
  clear h4 h3
  by_cases hl : 1048576 < xs.length
  · have hl' : (1048576 : Int) < xs.length := by omega
    go_enter Try.func3, Try.ntmps3
    go_wp2_with fail
    go_ret
    exact ⟨rfl, New.refl _⟩
  · have hl' : ¬ ((1048576 : Int) < xs.length) := by omega
    go_enter Try.func3, Try.ntmps3
    go_wp2_with fail
    refine (toInts _ xs w h0 (by omega)).mono ?_
    rintro e w1 ⟨v1, rfl, n1, o1⟩
    go_wp2_with fail
    refine (specTv_ok _ xs _ o1.nums).mono ?_
    rintro e w2 ⟨rfl, d2⟩
    go_wp2_with fail
    have n2 := n1.trans d2.new
    refine (toInts _ xs _ (h0.new n2) (by omega)).mono ?_
    rintro e w3 ⟨v3, rfl, n3, o3⟩
    go_wp2_with fail
    refine (implTv _ xs _ o3.nums).mono ?_
    rintro e w4 ⟨rfl, rfl⟩
    have n4 := n2.trans n3
    generalize timesOk xs = r
    cases r
    all_goals
      go_wp2_with fail
      refine (toInts _ xs _ (h0.new n4) (by omega)).mono ?_
      rintro e w5 ⟨v5, rfl, n5, o5⟩
      go_wp2_with fail
      refine (eqInts _ _ xs xs _ (o3.nums.new n5) o5.nums).mono ?_
      rintro e w6 ⟨rfl, d6⟩
      go_wp2_with fail
      go_ret
      exact ⟨rfl, (n4.trans n5).trans d6.new⟩

end Go.Proofs.Ytfcdhmbooblpoaa
