/- The draw of a drop. -/
import Derived.Test.YtkffejommncinaaDoorDrawTrees
namespace Go.Proofs.YtkffejommncinaaDoor
open Go.RowKit

set_option maxRecDepth 4000 in
set_option maxHeartbeats 400000 in
theorem drawTreeDrop {S : Nat → Prop} (v : Value) (bs : List Int) (w : World) (h : Nums .u8 S w v bs) :
    Calls Tryd.prog 21 #[v] w (TreePathDrawn w) := by
  have hd := drawTreeFind v bs w h
  have Hd := Lib.hid hd
  obtain ⟨a, c, rfl, -⟩ := h
  clear hd
  go_enter Tryd.func21, Tryd.ntmps21
  go_wp2_with fail
  refine Hd.out.mono ?_
  rintro e w1 ⟨v1, os, l, rfl, hs, hl, o1, n1⟩
  obtain ⟨a1, c1, rfl, -⟩ := o1.shape
  unfold txt
  go_wp2_with fail
  go_ret2
  exact ⟨_, os, l, rfl, hs, hl, o1, n1⟩
end Go.Proofs.YtkffejommncinaaDoor
