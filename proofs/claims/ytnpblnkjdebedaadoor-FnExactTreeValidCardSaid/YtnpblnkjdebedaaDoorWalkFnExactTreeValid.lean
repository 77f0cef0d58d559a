/- The walk of FnExactTreeValid. -/
import Derived.Test.YtnpblnkjdebedaaDoorSpecList
namespace Go.Proofs.YtnpblnkjdebedaaDoor
open Go.RowKit

set_option maxRecDepth 4000 in
set_option maxHeartbeats 1000000 in
theorem walkFnExactTreeValid (v : Value) (os : List ItemR) (w : World) (h : Items Any w v os) :
    Calls Tryd.prog 5 #[v] w fun e w' => e = .returned (.bool true) ∧ New w w' := by
  have h0 := h
  obtain ⟨-, a, c, rfl, h1, h2, -⟩ := h
  unfold maxLen at h2
  go_enter Tryd.func5, Tryd.ntmps5
  go_wp2_with fail
  refine (szItems _ os w h0).mono ?_
  rintro e w1 ⟨r, rfl, -, hr, n1⟩
  by_cases hneg : r < 0
  · go_wp2_with fail
    go_ret
    exact ⟨rfl, n1⟩
  · obtain ⟨hl, hall⟩ := hr (by omega)
    have Hall := Lib.hid hall
    clear hr hall
    go_wp2_with fail
    refine (toItems _ os w1 (Recs.new h0 n1) hl Hall.out).mono ?_
    rintro e w2 ⟨v2, rfl, o2, n2⟩
    replace n2 := n1.trans n2
    go_wp2_with fail
    refine (specValid _ os w2 o2.recs Hall.out).mono ?_
    rintro e w3 ⟨rfl, n3⟩
    replace n3 := n2.trans n3
    clear o2
    go_wp2_with fail
    refine (toItems _ os w3 (Recs.new h0 n3) hl Hall.out).mono ?_
    rintro e w4 ⟨v4, rfl, o4, n4⟩
    have n4' := n3.trans n4
    go_wp2_with fail
    refine (implTreeValid _ os w4 o4.recs Hall.out).mono ?_
    rintro e w5 ⟨rfl, n5⟩
    have n5' := n4'.trans n5
    have o5 := OwnRecs.new o4 n5
    generalize treeOk os = ok
    have hbb : (ok != ok) = false := by simp
    clear o4 n4 n5 n4'
    go_wp2_with fail
    refine (toItems _ os w5 (Recs.new h0 n5') hl Hall.out).mono ?_
    rintro e w6 ⟨v6, rfl, o6, n6⟩
    have n6' := n5'.trans n6
    go_wp2_with fail
    refine (eqItems _ _ os os w6 (OwnRecs.new o5 n6).recs o6.recs).mono ?_
    rintro e w7 ⟨rfl, n7⟩
    go_wp2_with fail
    go_ret
    exact ⟨rfl, n6'.trans n7⟩

end Go.Proofs.YtnpblnkjdebedaaDoor
