/- The walk of l6In, the reference's test of bounds; the reference's tests of bytes. -/
import Derived.Test.YtkffejommncinaaDoorBytes
namespace Go.Proofs.YtkffejommncinaaDoor
open Go.RowKit

def inB (n l h : Int) : Bool := decide (l ≤ n) && decide (n ≤ h)

set_option maxRecDepth 4000 in
set_option maxHeartbeats 400000 in
theorem in_any (a b c : Int) (w : World) :
    Calls Tryd.prog 80 #[.int .i64 a, .int .i64 b, .int .i64 c] w fun e w' => e = .returned (.bool (inB a b c)) ∧ w = w' := by
  go_enter Tryd.func80, Tryd.ntmps80
  go_wp2
  all_goals (go_ret; exact ⟨ret_bool (by unfold inB; first | (simp_all; done) | (simp_all; omega)), rfl⟩)
theorem in_is {r : Bool} {a b c : Int} (h : inB a b c = r) (w : World) :
    Calls Tryd.prog 80 #[.int .i64 a, .int .i64 b, .int .i64 c] w fun e w' => e = .returned (.bool r) ∧ w = w' := h ▸ in_any a b c w

theorem bytesOk_in (x : Int) (r : List Int) : bytesOk (x :: r) = (inB x 0 255 && bytesOk r) := by
  rw [bytesOk]
  unfold inB
  by_cases h : x < 0 ∨ 255 < x
  · rw [if_pos h]
    rcases h with h | h
    · simp [show ¬ (0 ≤ x) from by omega]
    · simp [show ¬ (x ≤ 255) from by omega]
  · rw [if_neg h]; simp [show 0 ≤ x from by omega, show x ≤ 255 from by omega]

end Go.Proofs.YtkffejommncinaaDoor
